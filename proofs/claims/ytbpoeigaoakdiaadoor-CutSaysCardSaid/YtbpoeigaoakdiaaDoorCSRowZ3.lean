/- Own texts, merged: HOk, HOk2, Tz, Bt, ZDef, ZV1, ZOk1, ZV2, ZOk2, ZM, ZC, ZV3, ZOk3, QDef, KDef. -/
import Derived.Test.YtbpoeigaoakdiaaDoorCSRowZ2
import Derived.Test.YtbpoeigaoakdiaaDoorChecked
import Derived.Shelf.Spec.TrailingZeros
import Derived.RangeFuncNested
import Derived.RangeFuncBound
import Derived.RangeFuncCalls
import Derived.RangeFuncLeaves
import Derived.Shelf.Abstract
import Derived.Shelf.RegionOpen
import Derived.WalkKit
import Derived.OwnWalkIn
import Derived.TacticsInMore
import Derived.LoopNIn
import Derived.LoopIn
import Derived.Test.YtbpoeigaoakdiaaDoorVcQ
/- Traces: the document's functions keep their contracts. -/
namespace Go.Proofs.YtbpoeigaoakdiaaDoor.H
open Go.Vc

theorem okRIn : PlainOk Tryd.prog [] 42 cWithin := by
  refine plain_of (CxOk.mk' Em_ok (by kernel_rfl) mixed (gl := []) GOk.nil GoOk.nil noIt) Tryd.func42 (c := Tryd.f42.body.getD .skip) (rvs := [(.tmp 6, .bool)]) (by kernel_rfl) (by kernel_rfl) (by kernel_rfl) ?_
  intro ds k ⟨hp, hk⟩ hwf
  obtain ⟨a, b, c, rfl, -⟩ := dest3 hp
  have hk : k [⟨.bool, inB a b c⟩] := hk
  refine ⟨[joinAll], ?_⟩
  rw [vcRIn]
  unfold inB at hk
  refine ⟨fun h => ?_, fun h => ?_⟩ <;> simpa [h] using hk

theorem rtrace_vc (t : Tr) (ht : inK .i64 t.1) (k : List Dat → Prop) (hk : k [⟨I, chk t⟩]) : vcF ⟨Em, [(42, cWithin)], [], [], []⟩ (anRTrace t) (Tryd.f8.body.getD .skip) Tryd.f8.ntmps [(.tmp 2, I)] [⟨tTr, t⟩] k := by
  rw [vcRTrace]
  have ret : ∀ x : Int, chk t = x → k [⟨I, x⟩] := by rintro _ rfl; exact hk
  simp only [decide_eq_true_eq, decide_eq_false_iff_not, and_true, true_and, ne_eq, Bool.not_eq_true', Bool.not_eq_false', Int.toNat_natCast]
  refine ⟨fun h => ret _ (by unfold chk; rw [if_pos h]), fun h => ⟨fun g => ret _ (by unfold chk; rw [if_neg (by rw [h]; decide), if_pos (by omega)]), fun g => ?_⟩⟩
  have hp : 1 ≤ t.1 ∧ t.1 ≤ 5 := by simpa [inB] using h
  have hlen : t.2.1.length ≤ 24 := by omega
  have hc0 : chk t = evsErr t.1 t.2.1 t.2.1.length 0 := by
    unfold chk; rw [if_neg (by rw [h]; decide), if_neg (by omega)]
  have hstep : ∀ x, x < t.2.1.length → evsErr t.1 t.2.1 (t.2.1.length - x) x = if evErr t.1 t.2.1 x = 0 then evsErr t.1 t.2.1 (t.2.1.length - (x + 1)) (x + 1) else evErr t.1 t.2.1 x := by
    intro x hx
    rw [show t.2.1.length - x = (t.2.1.length - (x + 1)) + 1 by omega]
    rfl
  refine ⟨⟨0, ⟨hc0, Nat.zero_le _⟩, rfl⟩, fun x ⟨hx, hxl⟩ => ⟨fun hlt => ?_, fun hge => ret _ ?_⟩⟩
  · have hst := hstep x (by omega)
    have bad : ∀ n, evErr t.1 t.2.1 x = n → n ≠ 0 → k [⟨I, n⟩] := fun n h1 h2 => ret n (by rw [hx, hst, if_neg (by rw [h1]; exact h2), h1])
    have good : evErr t.1 t.2.1 x = 0 → inK IntKind.i64 ((x : Int) + 1) ∧ ∃ x', (chk t = evsErr t.1 t.2.1 (t.2.1.length - x') x' ∧ x' ≤ t.2.1.length) ∧ t.2.1.length - x' < t.2.1.length - x ∧ (x : Int) + 1 = (x' : Int) := fun h1 =>
      ⟨inK_i64.2 (by omega), x + 1, ⟨by rw [hx, hst, if_pos h1], by omega⟩, by omega, by omega⟩
    have hpi : inK .i64 (t.1 - 1) := inK_i64.2 (by omega)
    refine ⟨by omega, hlt, hpi, fun h1 => bad 1 ?_ (by decide), fun h1 => ⟨inK_i64.2 (by omega), fun h2 => bad 1 ?_ (by decide), fun h2 => ⟨⟨fun h3 => ⟨h3, ?_⟩, fun _ => trivial⟩, fun h4 => bad 6 ?_ (by decide), fun h4 => good ?_⟩⟩⟩
    · unfold evErr; rw [if_pos (by rw [h1]; rfl)]
    · unfold evErr; rw [if_pos (by rw [h1, h2]; rfl)]
    · have : (t.2.1.getD x (0, 0, ())).2.1 ≤ (x : Int) - 1 := by
        simp only [inB, Bool.and_eq_true, decide_eq_true_eq] at h2; exact h2.2
      omega
    · rw [Bool.and_eq_true, decide_eq_true_eq, decide_eq_true_eq] at h4
      unfold evErr; rw [if_neg (by rw [h1, h2]; decide), if_pos h4]
    · unfold evErr; rw [if_neg (by rw [h1, h2]; decide), if_neg]
      rintro ⟨ha, hb⟩
      rw [decide_eq_true ha, decide_eq_true hb] at h4
      cases h4
  · have : x = t.2.1.length := by omega
    rw [hx, this, Nat.sub_self]; rfl

theorem okRTrace : PlainOk Tryd.prog [] 8 cRTrace := by
  refine plain_of (CxOk.mk' Em_ok (by kernel_rfl) mixed (gl := []) (GOk.cons okRIn Tryd.func42 (by kernel_rfl) (by kernel_rfl) GOk.nil) GoOk.nil noIt) Tryd.func8 (c := Tryd.f8.body.getD .skip) (rvs := [(.tmp 2, I)]) (by kernel_rfl) (by kernel_rfl) (by kernel_rfl) ?_
  intro ds k ⟨hp, hk⟩ hwf
  obtain ⟨t, rfl, -⟩ := dest1 hp
  exact ⟨anRTrace t, rtrace_vc t (wf1 hwf).1 k hk⟩

theorem bitB_nat (a k : Nat) : bitB (a : Int) (k : Int) = a.testBit k := by
  unfold bitB
  simp
theorem both_step (a b x : Nat) : (a &&& b) % 2 ^ (x + 1) = (a &&& b) % 2 ^ x + (if a.testBit x = true ∧ b.testBit x = true then 2 ^ x else 0) := by
  have h : (a.testBit x = true ∧ b.testBit x = true) ↔ (a &&& b) / 2 ^ x % 2 = 1 := by
    have := Nat.testBit_and a b x
    rw [Nat.testBit_eq_decide_div_mod_eq] at this
    rw [← Bool.and_eq_true, ← this, decide_eq_true_eq]
  rw [Nat.mod_pow_succ]
  by_cases hb : (a &&& b) / 2 ^ x % 2 = 1
  · rw [if_pos (h.2 hb), hb, Nat.mul_one]
  · have h0 : (a &&& b) / 2 ^ x % 2 = 0 := by omega
    rw [if_neg (fun e => hb (h.1 e)), h0, Nat.mul_zero]

theorem tmod_bit (n x : Nat) : (((n : Int).tdiv ((2 : Int) ^ x)).tmod 2 = 1) ↔ n.testBit x = true := by
  have h := bit_of (s := (n : Int)) (x := x)
  rw [bitB_nat] at h
  constructor
  · intro e; rw [← h]; exact decide_eq_true e
  · intro e; rw [e] at h; exact of_decide_eq_true h

theorem okBoth : PlainOk Tryd.prog [] 67 cBoth := by
  refine plain_of (CxOk.mk' Em_ok (by kernel_rfl) mixed (gl := []) GOk.nil GoOk.nil noIt) Tryd.func67 (c := Tryd.f67.body.getD .skip) (rvs := [(.tmp 4, I)]) (by kernel_rfl) (by kernel_rfl) (by kernel_rfl) ?_
  intro ds k ⟨hp, hk⟩ hwf
  obtain ⟨a, b, rfl, ha61, -⟩ := dest2 hp
  have hk : k [⟨I, ((a.toNat &&& b.toNat : Nat) : Int)⟩] := hk
  have ha : inK .i64 a := (wf2 hwf).1
  have hb : inK .i64 b := (wf2 hwf).2
  have hbi := inK_i64.1 hb
  refine ⟨anBoth a b, ?_⟩
  rw [vcBoth]
  simp only [decide_eq_true_eq, decide_eq_false_iff_not, and_true, true_and, ne_eq]
  have h20 : ¬ (2 : Int) = 0 := by decide
  have fin : ∀ (s : Int) (x : Nat), ¬ 0 < s.tdiv ((2 : Int) ^ x) → s.toNat < 2 ^ x := by
    intro s x h
    by_cases hs : 0 ≤ s
    · obtain ⟨n, rfl⟩ := Int.eq_ofNat_of_zero_le hs
      rw [tdivN] at h
      have h0 : n / 2 ^ x = 0 := by
        generalize n / 2 ^ x = q at h
        omega
      rcases Nat.lt_or_ge n (2 ^ x) with h | h
      · exact h
      · have := Nat.div_pos h (Nat.two_pow_pos x); omega
    · have : s.toNat = 0 := by omega
      rw [this]; exact Nat.two_pow_pos x
  have fink : ∀ x : Nat, (a.toNat &&& b.toNat) < 2 ^ x → k [⟨I, (((a.toNat &&& b.toNat) % 2 ^ x : Nat) : Int)⟩] := by
    intro x h; rw [Nat.mod_eq_of_lt h]; exact hk
  refine ⟨⟨0, by omega, by simp, by simp, by simp [Nat.mod_one], rfl⟩, fun x hx => ⟨fun hA => ⟨fun hB => ?_, fun hB => fink x (Nat.lt_of_le_of_lt Nat.and_le_right (fin b x hB))⟩, fun hA => fink x (Nat.lt_of_le_of_lt Nat.and_le_left (fin a x hA))⟩⟩
  have hpos := two_pow_pos x
  have hapos : 0 ≤ a := by
    refine Int.not_lt.1 fun hneg => ?_
    have := Int.tdiv_nonneg (a := -a) (b := (2 : Int) ^ x) (by omega) (by omega)
    rw [Int.neg_tdiv] at this; omega
  have hbpos : 0 ≤ b := by
    refine Int.not_lt.1 fun hneg => ?_
    have := Int.tdiv_nonneg (a := -b) (b := (2 : Int) ^ x) (by omega) (by omega)
    rw [Int.neg_tdiv] at this; omega
  obtain ⟨m, rfl⟩ := Int.eq_ofNat_of_zero_le hapos
  obtain ⟨n, rfl⟩ := Int.eq_ofNat_of_zero_le hbpos
  simp only [Int.toNat_natCast] at *
  have hx60 : x ≤ 60 := by
    rcases Nat.lt_or_ge x 61 with h | h
    · omega
    · rw [tdivN] at hA
      have h61 : (2 : Nat) ^ 61 = 2305843009213693952 := by decide
      have hpw : 2 ^ 61 ≤ 2 ^ x := Nat.pow_le_pow_right (by decide) h
      have hm61 : m < 2 ^ 61 := by rw [h61]; omega
      have h0 : m / 2 ^ x = 0 := Nat.div_eq_of_lt (Nat.lt_of_lt_of_le hm61 hpw)
      rw [h0] at hA
      exact absurd hA (by decide)
  have hp2 : (2 : Int) ^ x * 2 = 2 ^ (x + 1) := by rw [Int.pow_succ]
  have hple := two_pow_le (n := x + 1) (by omega)
  have hplx : (2 : Int) ^ x ≤ 2 ^ (x + 1) := by rw [← hp2]; omega
  have hcast : ((2 ^ x : Nat) : Int) = (2 : Int) ^ x := by rw [Int.natCast_pow]; rfl
  have hmod : (((m &&& n) % 2 ^ x : Nat) : Int) < (2 : Int) ^ x := by
    rw [← hcast]; exact Int.ofNat_lt.2 (Nat.mod_lt _ (Nat.two_pow_pos x))
  have hst := both_step m n x
  have nxt : ∀ v : Int, (v = (((m &&& n) % 2 ^ (x + 1) : Nat) : Int)) → ¬(2 : Int) = 0 ∧ inK .i64 (((m : Int).tdiv ((2 : Int) ^ x)).tdiv 2) ∧ ¬(2 : Int) = 0 ∧ inK .i64 (((n : Int).tdiv ((2 : Int) ^ x)).tdiv 2) ∧ inK .i64 ((2 : Int) ^ x * 2) ∧ ∃ x_1 : Nat, x_1 ≤ 61 ∧ 62 - x_1 < 62 - x ∧ ((m : Int).tdiv ((2 : Int) ^ x)).tdiv 2 = (m : Int).tdiv ((2 : Int) ^ x_1) ∧
      ((n : Int).tdiv ((2 : Int) ^ x)).tdiv 2 = (n : Int).tdiv ((2 : Int) ^ x_1) ∧ v = (((m &&& n) % 2 ^ x_1 : Nat) : Int) ∧ (2 : Int) ^ x * 2 = 2 ^ x_1 := by
    intro v hv
    refine ⟨h20, by rw [tdiv_pow]; exact (tdiv_in ha (x + 1)).1, h20, by rw [tdiv_pow]; exact (tdiv_in hb (x + 1)).1, inK_i64.2 (by rw [hp2]; omega), x + 1, by omega, by omega, tdiv_pow _ _, tdiv_pow _ _, hv, hp2⟩
  refine ⟨h20, (tdiv_in ha x).2, fun hAb => ⟨h20, (tdiv_in hb x).2, fun hBb => ⟨inK_i64.2 (by omega), nxt _ ?_⟩, fun hBb => nxt _ ?_⟩, fun hAb => nxt _ ?_⟩
  · rw [tmod_bit] at hAb hBb
    rw [hst, if_pos ⟨hAb, hBb⟩]
    omega
  · rw [tmod_bit] at hBb
    rw [hst, if_neg (fun h => hBb h.2)]; rfl
  · rw [tmod_bit] at hAb
    rw [hst, if_neg (fun h => hAb h.1)]; rfl


theorem either_eq (a b : Int) (ha : 0 ≤ a) (hb : 0 ≤ b) : a + b - ((a.toNat &&& b.toNat : Nat) : Int) = ((a.toNat ||| b.toNat : Nat) : Int) ∧ 0 ≤ a + b - ((a.toNat &&& b.toNat : Nat) : Int) ∧ a + b - ((a.toNat &&& b.toNat : Nat) : Int) ≤ a + b := by
  have h := or_and_add a.toNat b.toNat
  generalize a.toNat &&& b.toNat = p at *
  generalize a.toNat ||| b.toNat = q at *
  omega
theorem okEither : PlainOk Tryd.prog [] 45 cEither := by
  refine plain_of (CxOk.mk' Em_ok (by kernel_rfl) mixed (gl := []) (GOk.cons okBoth Tryd.func67 (by kernel_rfl) (by kernel_rfl) GOk.nil) GoOk.nil noIt) Tryd.func45 (c := Tryd.f45.body.getD .skip) (rvs := [(.tmp 4, I)]) (by kernel_rfl) (by kernel_rfl) (by kernel_rfl) ?_
  intro ds k ⟨hp, hk⟩ hwf
  obtain ⟨a, b, rfl, ⟨ha, ha'⟩, hb, hb'⟩ := dest2 hp
  have hk : k [⟨I, ((a.toNat ||| b.toNat : Nat) : Int)⟩] := hk
  refine ⟨[], ?_⟩
  rw [vcEither]
  obtain ⟨he, h1, h2⟩ := either_eq a b ha hb
  have ha'' : a < (1152921504606846976 : Int) := ha'
  have hb'' : b < (1152921504606846976 : Int) := hb'
  refine ⟨inK_i64.2 ⟨by have := Int.add_nonneg ha hb; omega, by have := Int.add_lt_add ha'' hb''; omega⟩, ⟨by omega, trivial⟩, inK_i64.2 ⟨by omega, by have := Int.add_lt_add ha'' hb''; omega⟩, ?_⟩
  rw [he]; exact hk

theorem okWith : PlainOk Tryd.prog [] 46 cWith := by
  refine plain_of (CxOk.mk' Em_ok (by kernel_rfl) mixed (gl := []) (GOk.cons okBit Tryd.func49 (by kernel_rfl) (by kernel_rfl) (GOk.cons okPow2 Tryd.func56 (by kernel_rfl) (by kernel_rfl) GOk.nil)) GoOk.nil noIt) Tryd.func46 (c := Tryd.f46.body.getD .skip) (rvs := [(.tmp 4, I)]) (by kernel_rfl) (by kernel_rfl) (by kernel_rfl) ?_
  intro ds k ⟨hp, hk⟩ hwf
  obtain ⟨a, i, rfl, ⟨ha, ha'⟩, hi, hi'⟩ := dest2 hp
  have hk : k [⟨I, ((a.toNat ||| 2 ^ i.toNat : Nat) : Int)⟩] := hk
  obtain ⟨m, rfl⟩ := Int.eq_ofNat_of_zero_le ha
  obtain ⟨n, rfl⟩ := Int.eq_ofNat_of_zero_le hi
  simp only [Int.toNat_natCast] at hk
  refine ⟨[], ?_⟩
  rw [vcWith, bitB_nat]
  have h2 := two_pow_le (n := n) (by omega)
  have h3 := two_pow_pos n
  refine ⟨trivial, fun h => ?_, fun h => ⟨⟨by omega, trivial⟩, ?_, ?_⟩⟩
  · rw [or_pow_in h] at hk; exact hk
  · rw [Int.toNat_natCast, inK_i64]; omega
  · rw [or_pow_out h, Int.natCast_add, Int.natCast_pow] at hk; exact hk

theorem nth_vc (t : Tr) (i : Int) (hi : 0 ≤ i ∧ i < t.2.1.length) (hl : t.2.1.length ≤ maxLen) (k : List Dat → Prop) (hk : k [⟨I, (nth t.2.1 i.toNat : Int)⟩]) : vcF ⟨Em, [], [], [], []⟩ (anNth t i) (Tryd.f47.body.getD .skip) Tryd.f47.ntmps [(.tmp 4, I)] [⟨tTr, t⟩, ⟨I, i⟩] k := by
  rw [vcNth]
  have hml : maxLen ≤ 9223372036854775807 := by decide
  simp only [decide_eq_true_eq, decide_eq_false_iff_not, and_true, true_and, Int.toNat_natCast, inK_i64]
  refine ⟨⟨0, ⟨Nat.zero_le _, Nat.le_refl _⟩, rfl, rfl⟩, fun x ⟨hx, hn⟩ => ⟨fun hlt => ⟨⟨by omega, by omega, hi.1, hi.2⟩, fun he => ?_, fun he => ?_⟩, fun hge => ?_⟩⟩
  · have e : nthU t.2.1 i.toNat (x + 1) = nthU t.2.1 i.toNat x + 1 := by rw [nthU, if_pos he]
    exact ⟨by omega, by omega, x + 1, ⟨by omega, by omega⟩, by omega, by rw [e]; rfl, rfl⟩
  · have e : nthU t.2.1 i.toNat (x + 1) = nthU t.2.1 i.toNat x := by rw [nthU, if_neg he]
    exact ⟨by omega, x + 1, ⟨by omega, by omega⟩, by omega, by rw [e], rfl⟩
  · have : x = i.toNat := by omega
    rw [this]; exact hk
theorem okNth : PlainOk Tryd.prog [] 47 cNth := by
  refine plain_of (CxOk.mk' Em_ok (by kernel_rfl) mixed (gl := []) GOk.nil GoOk.nil noIt) Tryd.func47 (c := Tryd.f47.body.getD .skip) (rvs := [(.tmp 4, I)]) (by kernel_rfl) (by kernel_rfl) (by kernel_rfl) ?_
  intro ds k ⟨hp, hk⟩ hwf
  obtain ⟨t, i, rfl, hi⟩ := dest2 hp
  exact ⟨anNth t i, nth_vc t i hi (wf2 hwf).1.2.1.1 k hk⟩

theorem small_of {n m : Nat} (h : n < 2 ^ m) (hm : m ≤ 25) : setP (n : Int) := by
  have : 2 ^ m ≤ 2 ^ 25 := Nat.pow_le_pow_right (by decide) hm
  unfold setP
  omega
theorem rbefore_vc (t : Tr) (hc : chk t = 0) (k : List Dat → Prop) (hk : k [⟨.sl I, ints (befN t)⟩]) : vcF ⟨Em, [(45, cEither), (46, cWith)], [], [], []⟩ (anRBefore t) (Tryd.f11.body.getD .skip) Tryd.f11.ntmps [(.tmp 2, .sl I)] [⟨tTr, t⟩] k := by
  rw [vcRBefore]
  have g := gd_of hc
  simp only [decide_eq_true_eq, decide_eq_false_iff_not, and_true, true_and, Int.toNat_natCast, inK_i64, bBs_len]
  have hl := g.len
  refine ⟨⟨0, Nat.zero_le _, rfl, rfl⟩, fun x hx => ⟨fun hlt => ?_, fun hge => ?_⟩⟩
  · have hxl : x < t.2.1.length := by omega
    refine ⟨⟨0, Nat.zero_le _, rfl, rfl⟩, fun y hy => ⟨fun hyx => ?_, fun hyx => ?_⟩⟩
    · have hyx : y < x := by omega
      refine ⟨⟨by omega, by omega, by omega, hlt, fun _ => trivial, fun _ => ⟨by omega, hlt⟩⟩, fun hm => ?_, fun hm => ?_⟩
      · have hm' : mustB t.2.1 x y = true := hm
        have hb := bB_lt g.p g.f (i := y) (by omega)
        have hs := setU_lt g hxl y (by omega)
        rw [bBs_at hyx, Int.toNat_natCast]
        refine ⟨by omega, by omega, ⟨small_of hb (by omega), by omega, by omega⟩, ⟨small_of hs (by omega), small_of (m := y + 1) (Nat.or_lt_two_pow (Nat.lt_trans hb (Nat.pow_lt_pow_right (by decide) (by omega))) (Nat.pow_lt_pow_right (by decide) (by omega))) (by omega)⟩, by omega, y + 1, by omega, by omega, ?_, rfl⟩
        rw [setU, if_pos hm']
      · have hm' : ¬ mustB t.2.1 x y = true := by
          intro h
          unfold mustB at h
          rw [hm] at h
          cases h
        refine ⟨by omega, y + 1, by omega, by omega, ?_, rfl⟩
        rw [setU, if_neg hm']
    · have hyx : y = x := by omega
      subst hyx
      rw [set_eq g hxl]
      refine ⟨by simp; omega, by omega, y + 1, by omega, by omega, rfl, ?_⟩
      rw [bBs_succ]; rfl
  · have : x = t.2.1.length := by omega
    rw [this, bBs_all g]; exact hk
theorem okRBefore : PlainOk Tryd.prog [] 11 cRBefore := by
  refine plain_of (CxOk.mk' Em_ok (by kernel_rfl) mixed (gl := []) (GOk.cons okEither Tryd.func45 (by kernel_rfl) (by kernel_rfl) (GOk.cons okWith Tryd.func46 (by kernel_rfl) (by kernel_rfl) GOk.nil)) GoOk.nil noIt) Tryd.func11 (c := Tryd.f11.body.getD .skip) (rvs := [(.tmp 2, .sl I)]) (by kernel_rfl) (by kernel_rfl) (by kernel_rfl) ?_
  intro ds k ⟨hp, hk⟩ hwf
  obtain ⟨t, rfl, hc, -⟩ := dest1 hp
  exact ⟨anRBefore t, rbefore_vc t hc k hk⟩
end Go.Proofs.YtbpoeigaoakdiaaDoor.H

/- Traces: a process's events: the document's answers. -/
namespace Go.Proofs.YtbpoeigaoakdiaaDoor.H
open Go.Vc

theorem ofU_succ (l : List Ev) (p : Int) (k : Nat) : ofU l p (k + 1) = ofU l p k ++ (if (l.getD k (0, 0, ())).1 = p then [(k : Int)] else []) := by
  unfold ofU
  rw [List.range_succ, List.filter_append, List.map_append]
  congr 1
  rw [List.filter_cons]
  by_cases h : (l.getD k (0, 0, ())).1 = p
  · rw [if_pos (decide_eq_true h), if_pos h]; rfl
  · rw [if_neg (by simpa using h), if_neg h]; rfl
theorem ofU_len (l : List Ev) (p : Int) (k : Nat) : (ofU l p k).length ≤ k := by
  unfold ofU
  rw [List.length_map]
  exact Nat.le_trans (List.length_filter_le _ _) (by simp)

theorem rof_vc (t : Tr) (p : Int) (h : chk t = 0) (k : List Dat → Prop) (hk : k [⟨.sl I, ofT t p⟩]) :
    vcF ⟨Em, [], [], [], []⟩ (anROf t p) (Tryd.f12.body.getD .skip) Tryd.f12.ntmps [(.tmp 4, .sl I)] [⟨tTr, t⟩, ⟨I, p⟩] k := by
  rw [vcROf]
  have hl := (good_of h).len
  simp only [decide_eq_true_eq, decide_eq_false_iff_not, and_true, true_and, Int.toNat_natCast]
  refine ⟨⟨0, by omega, rfl, rfl⟩, fun x hx => ⟨fun hlt => ⟨by omega, hlt, fun he => ⟨?_, inK_i64.2 (by omega), x + 1, by omega, by omega, rfl, ?_⟩, fun he => ⟨inK_i64.2 (by omega), x + 1, by omega, by omega, rfl, ?_⟩⟩, fun hge => ?_⟩⟩
  · have := ofU_len t.2.1 p x
    simp only [List.replicate, List.set, List.length_cons, List.length_nil]
    omega
  · rw [ofU_succ, if_pos he]; rfl
  · rw [ofU_succ, if_neg he, List.append_nil]
  · have : x = t.2.1.length := by omega
    subst this
    exact hk
theorem okROf : PlainOk Tryd.prog [] 12 cROf := by
  refine plain_of (CxOk.mk' Em_ok (by kernel_rfl) mixed (gl := []) GOk.nil GoOk.nil noIt) Tryd.func12 (c := Tryd.f12.body.getD .skip) (rvs := [(.tmp 4, .sl I)]) (by kernel_rfl) (by kernel_rfl) (by kernel_rfl) ?_
  intro ds k ⟨hp, hk⟩ hwf
  obtain ⟨t, p, rfl, h, -⟩ := dest2 hp
  exact ⟨anROf t p, rof_vc t p h k hk⟩

theorem of_vc (t : Tr) (p : Int) (k : List Dat → Prop) (hk : k [⟨.sl I, if ofE t p = 0 then ofT t p else []⟩, ⟨tErr, ofE t p⟩]) :
    vcF ⟨Em, [(10, cCheck), (44, cWithin)], [], [], []⟩ (anOf t p) (Tryd.f15.body.getD .skip) Tryd.f15.ntmps [(.tmp 4, .sl I), (.tmp 5, tErr)] [⟨tTr, t⟩, ⟨I, p⟩] k := by
  rw [vcOf]
  simp only [decide_eq_true_eq, decide_eq_false_iff_not, and_true, true_and, Bool.not_eq_true', Bool.not_eq_false', Int.toNat_natCast]
  refine ⟨fun h => ?_, fun h => ?_⟩
  · have e : ofE t p = chk t := by unfold ofE; rw [if_neg h]
    rw [e, if_neg h] at hk; exact hk
  · have g := good_of h
    have hl := g.len
    have hpr := g.procs
    refine ⟨inK_i64.2 (by omega), fun hw => ⟨by decide, ?_⟩, fun hw => ⟨⟨0, ⟨by omega, h⟩, rfl, rfl⟩, fun x ⟨hx, _⟩ => ⟨fun hlt => ⟨by omega, hlt, fun he => ⟨?_, inK_i64.2 (by omega), x + 1, ⟨by omega, h⟩, by omega, rfl, ?_⟩, fun he => ⟨inK_i64.2 (by omega), x + 1, ⟨by omega, h⟩, by omega, rfl, ?_⟩⟩, fun hge => ?_⟩⟩⟩
    · have e : ofE t p = 1 := by unfold ofE; rw [if_pos h, if_neg (by rw [hw]; decide)]
      rw [e] at hk; exact hk
    · have := ofU_len t.2.1 p x
      simp only [List.replicate, List.set, List.length_cons, List.length_nil]
      omega
    · rw [ofU_succ, if_pos he]; rfl
    · rw [ofU_succ, if_neg he, List.append_nil]
    · have : x = t.2.1.length := by omega
      subst this
      have e : ofE t p = 0 := by unfold ofE; rw [if_pos h, if_pos hw]
      rw [e] at hk; exact hk
theorem okOf : PlainOk Tryd.prog [] 15 cOf := by
  refine plain_of (CxOk.mk' Em_ok (by kernel_rfl) mixed (gl := []) (GOk.cons okCheck Tryd.func10 (by kernel_rfl) (by kernel_rfl) (GOk.cons okWithin Tryd.func44 (by kernel_rfl) (by kernel_rfl) GOk.nil)) GoOk.nil noIt) Tryd.func15 (c := Tryd.f15.body.getD .skip) (rvs := [(.tmp 4, .sl I), (.tmp 5, tErr)]) (by kernel_rfl) (by kernel_rfl) (by kernel_rfl) ?_
  intro ds k ⟨hp, hk⟩ hwf
  obtain ⟨t, p, rfl, -⟩ := dest2 hp
  exact ⟨anOf t p, of_vc t p k hk⟩

theorem evsErr_in {p : Int} {l : List Ev} : ∀ (f i : Nat), 0 ≤ evsErr p l f i ∧ evsErr p l f i ≤ 6 := by
  intro f
  induction f with
  | zero => intro i; unfold evsErr; omega
  | succ f ih =>
    intro i
    unfold evsErr
    split
    · exact ih _
    · unfold evErr
      split
      · omega
      · split <;> omega
theorem chk_in (t : Tr) : 0 ≤ chk t ∧ chk t ≤ 6 := by
  unfold chk
  split
  · omega
  · split
    · omega
    · exact evsErr_in _ _
theorem ofE_in (t : Tr) (p : Int) : 0 ≤ ofE t p ∧ ofE t p ≤ 6 := by
  have := chk_in t
  unfold ofE
  split
  · split <;> omega
  · omega
theorem lift {f : FuncId} {c : Ctr} {gl : List (Nat × Dat)} (h : PlainOk Tryd.prog [] f c) : PlainOk Tryd.prog gl f c := PlainOk.sub (fun x hx => by cases hx) h
end Go.Proofs.YtbpoeigaoakdiaaDoor.H

/- How many zeros a number ends with: the library's function, walked; the iterator over the things of a set. -/
namespace Go.Proofs.YtbpoeigaoakdiaaDoor
open Go.RowKit Go.Shelf
attribute [local go_sem] Oper.semAt_some

set_option maxHeartbeats 1000000 in
theorem tz64_core (x k idx : Nat) (w : World) (hx0 : ((x : Int) == 0) = false)
    (key : IntKind.u64.wrap (bits BinOp.and IntKind.u64 (x : Int) (IntKind.u64.wrap (-(x : Int))) * 285870213051353865) / 288230376151711744 = (idx : Int))
    (hi : idx < 64) (hk : k < 64) (hcell : w.cell? ⟨2, idx, none⟩ = some (.int .u8 k)) :
    Calls Tryd.prog 78 #[.int .u64 x] w fun e w' => e = .returned (.int .i64 k) ∧ w' = w := by
  go_enter Tryd.func78, Tryd.ntmps78
  go_wp2_with (simp only [key])
  go_ret
  exact ⟨rfl, rfl⟩

theorem tz64_zero (w : World) : Calls Tryd.prog 78 #[.int .u64 0] w fun e w' => e = .returned (.int .i64 64) ∧ w' = w := by
  go_enter Tryd.func78, Tryd.ntmps78
  go_wp2
  go_ret
  exact ⟨rfl, rfl⟩

theorem tz64 (x : Nat) (hx : x < 18446744073709551616) (w : World) (hT : x ≠ 0 → TabAt 2 Lib.deBruijn64tab w) :
    Calls Tryd.prog 78 #[.int .u64 x] w fun e w' => e = .returned (.int .i64 (Lib.ctz 64 x)) ∧ w' = w := by
  by_cases hx0 : x = 0
  · subst hx0
    exact tz64_zero w
  · obtain ⟨hlow, hk⟩ := Lib.lowest_bit 64 x hx0 hx
    obtain ⟨hi, htab⟩ := Lib.deBruijn64_at _ hk
    have hcell := hT hx0 _ hi
    rw [htab] at hcell
    exact tz64_core x _ _ w (by simp; omega) (tz64_key x _ hx hx0 hlow) hi hk hcell

theorem tz (x : Nat) (hx : x < 18446744073709551616) (w : World) (hT : x ≠ 0 → TabAt 2 Lib.deBruijn64tab w) :
    Calls Tryd.prog 69 #[.int .u64 x] w fun e w' => e = .returned (.int .i64 (Lib.ctz 64 x)) ∧ w' = w := by
  go_enter Tryd.func69, Tryd.ntmps69
  go_wp2_with (go_at_call 78; refine (tz64 x hx _ hT).mono ?_; rintro e w' ⟨rfl, rfl⟩)
  go_ret
  exact ⟨rfl, rfl⟩
end Go.Proofs.YtbpoeigaoakdiaaDoor

/- The iterator over the things of a set hands on the places of its bits, rising. -/
namespace Go.Proofs.YtbpoeigaoakdiaaDoor
open Go.RowKit Go.Shelf Go.Vc
attribute [local go_sem] Oper.semAt_some

theorem ctz_facts {r : Nat} (h0 : r ≠ 0) (h : r < 2 ^ 64) : Lib.ctz 64 r < 64 ∧ r.testBit (Lib.ctz 64 r) = true ∧ (∀ i, i < Lib.ctz 64 r → r.testBit i = false) ∧ ∀ i, (r &&& (r - 1)).testBit i = (r.testBit i && !decide (i = Lib.ctz 64 r)) := by
  have hc : Lib.ctz 64 r = Lib.ctzFrom 64 r := by unfold Lib.ctz; rw [if_neg h0]
  obtain ⟨m, hm, hlt⟩ := Lib.ctzFrom_spec 64 r (by omega) h
  rw [hc]
  generalize Lib.ctzFrom 64 r = t at *
  have hb : ∀ i, r.testBit i = (decide (t ≤ i) && (2 * m + 1).testBit (i - t)) := by
    intro i; rw [hm, Nat.testBit_two_pow_mul]
  have hpos : 0 < 2 ^ t := Nat.two_pow_pos t
  have hr1 : r - 1 = 2 ^ t * (2 * m) + (2 ^ t - 1) := by
    rw [hm, Nat.mul_add, Nat.mul_one]; omega
  have hb1 : ∀ i, (r - 1).testBit i = if i < t then (2 ^ t - 1).testBit i else (2 * m).testBit (i - t) := by
    intro i; rw [hr1, Nat.testBit_two_pow_mul_add _ (by omega)]
  refine ⟨hlt, ?_, fun i hi => ?_, fun i => ?_⟩
  · rw [hb]; simp
  · rw [hb]; simp; omega
  · rw [Nat.testBit_and, hb1, hb]
    by_cases h1 : i < t
    · rw [if_pos h1]
      have : decide (t ≤ i) = false := by simpa using h1
      rw [this]; simp
    · rw [if_neg h1]
      have : decide (t ≤ i) = true := by simpa using h1
      rw [this, Bool.true_and]
      by_cases h2 : i = t
      · subst h2; simp
      · obtain ⟨j, hj⟩ : ∃ j, i - t = j + 1 := ⟨i - t - 1, by omega⟩
        rw [hj, Nat.testBit_add_one, Nat.testBit_add_one, show (2 * m + 1) / 2 = m by omega, show 2 * m / 2 = m by omega]
        simp [h2]

def u64Of : Value → Nat
  | .int _ n => n.toNat
  | _ => 0
def bitsN (n : Nat) : List Nat := (List.range' 0 64).filter n.testBit

theorem filter_from (f : Nat → Bool) : ∀ (d p t : Nat), p + d = t → t < 64 → (∀ i, p ≤ i → i < t → f i = false) → f t = true → (List.range' p (64 - p)).filter f = t :: (List.range' (t + 1) (64 - (t + 1))).filter f := by
  intro d
  induction d with
  | zero =>
    intro p t ht h64 _ hft
    have : p = t := by omega
    subst this
    rw [show 64 - p = (64 - (p + 1)) + 1 by omega, List.range'_succ, List.filter_cons, if_pos hft]
  | succ d ih =>
    intro p t ht h64 hf hft
    rw [show 64 - p = (64 - (p + 1)) + 1 by omega, List.range'_succ, List.filter_cons, if_neg (by rw [hf p (Nat.le_refl _) (by omega)]; decide)]
    exact ih (p + 1) t (by omega) h64 (fun i h1 h2 => hf i (by omega) h2) hft

set_option maxRecDepth 100000 in
set_option maxHeartbeats 2000000 in
theorem bits1_in (F : Fence) (h45 : F.fn 68) (h46 : F.fn 69) (hro : F.round = none) (htz : ∀ (m x : Nat) (w : World), x < 18446744073709551616 → TabAt 2 Lib.deBruijn64tab w → CallsIn F m Tryd.prog 69 #[.int .u64 x] w fun e w' => e = .returned (.int .i64 (Lib.ctz 64 x)) ∧ w' = w) (n l : Nat) (hn : 1 ≤ n) (b : Nat) (o : Nat) (s : Int) (hs : inK .i64 s) (J Jx : Nat → World → Prop) (W : World)
    (hR : ∀ k W', J k W' → W'.cell? ⟨b, o, none⟩ = some (.int .i64 s) ∧ TabAt 2 Lib.deBruijn64tab W')
    (hY : ∀ m k x W1, ((bitsN (s % 18446744073709551616).toNat).map fun (i : Nat) => Value.int .i64 (i : Int))[k]? = some x → J k W1 →
      YieldAt F m Tryd.prog l #[x] W1 fun e W' => (e = .returned (.bool true) ∧ J (k + 1) W') ∨ (e = .returned (.bool false) ∧ Jx (k + 1) W')) (h0 : J 0 W) :
    CallsIn F n Tryd.prog 68 #[.func (.yield l) #[] #[], .pointer (some ⟨b, o, none⟩)] W fun e W' => (∃ v, e = .returned v) ∧ (J (bitsN (s % 18446744073709551616).toNat).length W' ∨ ∃ k, Jx k W') := by
  obtain ⟨N, hN⟩ : ∃ N, N = (s % 18446744073709551616).toNat := ⟨_, rfl⟩
  have hN64 : N < 18446744073709551616 := by omega
  have hw : IntKind.u64.wrap s = (N : Int) := by rw [IntKind.wrap_u64]; omega
  rw [← hN] at hY ⊢
  refine callsIn_of_wp Tryd.func68 rfl h45 ?_ hro
  simp only [Tryd.ntmps68, List.size_toArray, List.length_cons, List.length_nil, Nat.reduceAdd, Nat.reduceSub, Array.replicate_succ, Array.replicate_zero, List.push_toArray, List.append_toArray, List.nil_append, List.cons_append]
  have hc0 := (hR 0 W h0).1
  gi_wp2
  have hmx : max (s % 18446744073709551616) 0 = (N : Int) := by omega
  simp only [hmx]
  gi_loopw [3] (fun p wr => ∃ (r q k : Nat), p = .int .u64 (r : Int) ∧ r < 18446744073709551616 ∧ q ≤ 64 ∧ (∀ i, r.testBit i = (decide (q ≤ i) && N.testBit i)) ∧ (bitsN N).drop k = (List.range' q (64 - q)).filter N.testBit ∧ k ≤ (bitsN N).length ∧ J k wr)
    (fun p _ => u64Of p)
  case atStart =>
    exact ⟨N, 0, 0, rfl, hN64, by omega, fun i => by simp, rfl, by omega, h0⟩
  case round =>
    obtain ⟨r, q, k, rfl, hr, hq, hb, hd, hk, hJ⟩ := hrel
    obtain ⟨hc, hT⟩ := hR k wr hJ
    by_cases h0 : r = 0
    · subst h0
      have hkl : k = (bitsN N).length := by
        have : (List.range' q (64 - q)).filter N.testBit = [] := by
          rw [List.filter_eq_nil_iff]
          intro i hi
          have hqi := (List.mem_range'_1.1 hi).1
          have := hb i
          simp only [Nat.zero_testBit, decide_eq_true hqi, Bool.true_and] at this
          rw [← this]; decide
        rw [this, List.drop_eq_nil_iff] at hd
        omega
      subst hkl
      gi_wp2
      go_end0
      exact ⟨⟨_, rfl⟩, .inl hJ⟩
    · obtain ⟨f1, f2, f3, f4⟩ := ctz_facts h0 hr
      obtain ⟨t, ht⟩ : ∃ t, t = Lib.ctz 64 r := ⟨_, rfl⟩
      rw [← ht] at f1 f2 f3 f4
      have hqt : q ≤ t := by
        have := hb t; rw [f2] at this
        simp only [Bool.true_eq, Bool.and_eq_true, decide_eq_true_eq] at this; exact this.1
      have hNt : N.testBit t = true := by
        have := hb t; rw [f2] at this
        simp only [Bool.true_eq, Bool.and_eq_true, decide_eq_true_eq] at this; exact this.2
      have hd2 := filter_from N.testBit (t - q) q t (by omega) f1 (fun i h1 h2 => by
        have := hb i; rw [f3 i h2] at this
        simpa [h1] using this.symm) hNt
      rw [hd2] at hd
      have hkl : k < (bitsN N).length := by
        rcases Nat.lt_or_ge k (bitsN N).length with h | h
        · exact h
        · rw [List.drop_of_length_le h] at hd; cases hd
      have hxk : (bitsN N)[k]? = some t := by
        rw [List.drop_eq_getElem_cons hkl] at hd
        injection hd with hd1 _
        rw [List.getElem?_eq_getElem hkl, hd1]
      have hdk : (bitsN N).drop (k + 1) = (List.range' (t + 1) (64 - (t + 1))).filter N.testBit := by
        rw [List.drop_eq_getElem_cons hkl] at hd
        injection hd
      obtain ⟨fn, tmps, assign, body, hy, hRd⟩ := hY (n - 1) k (.int .i64 (t : Int)) wr (by rw [List.getElem?_map, hxk]; rfl) hJ
      have hne : ((r : Int) == 0) = false := by simp; omega
      have hnext : ∀ W', J (k + 1) W' → ∃ (r' q' k' : Nat), (Value.int .u64 ((r &&& (r - 1) : Nat) : Int) : Value) = .int .u64 (r' : Int) ∧ r' < 18446744073709551616 ∧ q' ≤ 64 ∧ (∀ i, r'.testBit i = (decide (q' ≤ i) && N.testBit i)) ∧
          (bitsN N).drop k' = (List.range' q' (64 - q')).filter N.testBit ∧ k' ≤ (bitsN N).length ∧ J k' W' := by
        intro W' hJ'
        refine ⟨r &&& (r - 1), t + 1, k + 1, rfl, Nat.lt_of_le_of_lt Nat.and_le_left hr, f1, fun i => ?_, hdk, hkl, hJ'⟩
        rw [f4, hb]
        by_cases h1 : i = t
        · have hni : decide (t + 1 ≤ i) = false := decide_eq_false (by omega)
          rw [hni, decide_eq_true h1]; simp
        · by_cases h2 : q ≤ i
          · by_cases h3 : t + 1 ≤ i
            · simp [h1, h2, h3]
            · have := hb i; rw [f3 i (by omega)] at this
              simp only [h2, decide_true, Bool.true_and] at this
              rw [← this]; simp
          · have h3 : ¬ t + 1 ≤ i := by omega
            simp [h2, h3]
      have hmeas : u64Of (.int .u64 ((r &&& (r - 1) : Nat) : Int)) < r := by
        show ((r &&& (r - 1) : Nat) : Int).toNat < r
        rw [Int.toNat_natCast]
        have : r &&& (r - 1) ≤ r - 1 := Nat.and_le_right
        omega
      have hand : ∀ (x : Int), x = (r : Int) - 1 → bits .and .u64 (r : Int) x = ((r &&& (r - 1) : Nat) : Int) := by
        intro x hx
        rw [hx, show (r : Int) - 1 = ((r - 1 : Nat) : Int) by omega, bits_and_u64_nat r _ hr (by omega)]
      have htz' := htz
      clear hb hd hdk hd2 f1 f2 f3 f4 hNt hqt hxk hkl hY hR hmx hw hN hN64 hq hk
      subst ht
      gi_wp2_with (gi_at_call 69; refine (htz _ r _ hr hT).mono ?_; rintro e w' ⟨rfl, rfl⟩)
      refine hRd.mono ?_
      rintro e W' (⟨rfl, hJ'⟩ | ⟨rfl, hJx'⟩)
      · have hsub : IntKind.u64.wrap ((r : Int) - 1) = (r : Int) - 1 := by rw [IntKind.wrap_u64]; omega
        have hand' := hand _ rfl
        gi_wp2
        exact ⟨hnext _ hJ', by show _ < ((r : Int)).toNat; rw [Int.toNat_natCast]; exact hmeas⟩
      · gi_wp2
        refine bodyPost_ret (results_none rfl _ _ _) rfl ?_
        exact ⟨⟨_, rfl⟩, .inr ⟨_, hJx'⟩⟩

abbrev tabD : List Int := [0, 1, 56, 2, 57, 49, 28, 3, 61, 58, 42, 50, 38, 29, 17, 4, 62, 47, 59, 36, 45, 43, 51, 22, 53, 39, 33, 30, 24, 18, 12, 5,
  63, 55, 48, 27, 60, 41, 37, 16, 46, 35, 44, 21, 52, 32, 23, 11, 54, 26, 40, 15, 34, 20, 31, 10, 25, 14, 19, 9, 13, 8, 7, 6]
/-- the library's table -/
def glT : List (Nat × Dat) := [(2, ⟨.ar 64 (.int .u8), tabD⟩)]

theorem tab_of {w : World} {ro : Nat → Prop} (h : GlOk glT w ro) : TabAt 2 Lib.deBruijn64tab w := by
  obtain ⟨_, us, h1, hn, css, hcs, hok⟩ := h 2 _ (List.mem_singleton.2 rfl)
  have hlen : css.length = 64 := hok.1
  have hflat : ∀ (xs : List Int) (css : List (List Value)), css.length = xs.length → (∀ (i : Nat) x u, xs[i]? = some x → css[i]? = some u → u = [Value.int .u8 x]) → css.flatten = xs.map (Value.int .u8) := by
    intro xs
    induction xs with
    | nil => intro css h _; cases css with
      | nil => rfl
      | cons => cases h
    | cons x r ih =>
      intro css h hx
      cases css with
      | nil => cases h
      | cons c cs =>
        rw [List.flatten_cons, hx 0 x c rfl rfl, ih cs (by simpa using h) (fun i x u h1 h2 => hx (i + 1) x u (by simpa using h1) (by simpa using h2))]
        rfl
  have hus : us = tabD.map (Value.int .u8) := by
    rw [hcs]
    exact hflat tabD css hok.1 fun i x u h1 h2 => (hok.2 i x u h1 h2).2.1
  intro j hj
  apply h1
  rw [hus, List.getElem?_map]
  have hj' : j < 64 := hj
  have : ∀ j : Fin 64, tabD[j.1]? = some ((Lib.deBruijn64tab.getD j.1 0 : Nat) : Int) := by decide
  rw [this ⟨j, hj'⟩]; rfl

/-- what the iterator over the things of a set hands on -/
def bitsOf (s : Int) : List Int := (bitsN (s % 18446744073709551616).toNat).map fun (i : Nat) => (i : Int)
def cBits : ItC := ⟨.pr (.ptr (.int .i64)) .un, .int .i64, fun x => match x.1 with
  | some s => some (bitsOf s)
  | none => none⟩

theorem itBits : ItOk Tryd.prog glT 68 cBits := by
  refine ⟨⟨_, Tryd.func68, rfl, rfl⟩, fun y xs hy => ?_⟩
  obtain ⟨y1, y2⟩ := y
  cases y1 with
  | none => cases hy
  | some s =>
    have hy : some (bitsOf s) = some xs := hy
    injection hy with hy; subst hy
    refine ⟨fun x hx w ro => ?_, fun caps n l J Jx W hJ hJx hG hY h0 => ?_⟩
    · unfold bitsOf at hx
      obtain ⟨i, hi, rfl⟩ := List.mem_map.1 hx
      have := (List.mem_range'_1.1 (List.mem_filter.1 hi).1).2
      exact ⟨rfl, inK_i64.2 ⟨by omega, by omega⟩⟩
    · have hR0 := (hG 0 W h0).2
      obtain ⟨c1, c2, hcs, ⟨ad, us, hc1, hsp, hblk, hcell, hus, hin⟩, hc2⟩ := hR0
      have hc2' : c2 = [] := hc2
      have hcaps : caps = #[.pointer (some ad)] := by apply Array.toList_inj.1; rw [hcs, hc1, hc2']; rfl
      subst hcaps
      obtain ⟨b, o, sp⟩ := ad
      have hsp' : sp = none := hsp
      subst hsp'
      have hmap : (bitsOf s).map (fun x => (Ty.int .i64).mk ((Ty.int .i64).cv x)) = (bitsN (s % 18446744073709551616).toNat).map fun (i : Nat) => Value.int .i64 (i : Int) := by
        unfold bitsOf; rw [List.map_map]; rfl
      have hlen : ((bitsOf s).map (fun x => (Ty.int .i64).mk ((Ty.int .i64).cv x))).length = (bitsN (s % 18446744073709551616).toNat).length := by rw [hmap, List.length_map]
      have hmap' : (bitsOf s).map (fun x => cBits.e.mk (cBits.e.cv x)) = (bitsN (s % 18446744073709551616).toNat).map fun (i : Nat) => Value.int .i64 (i : Int) := hmap
      have hlen' : ((bitsOf s).map (fun x => cBits.e.mk (cBits.e.cv x))).length = (bitsN (s % 18446744073709551616).toNat).length := hlen
      rw [hlen']
      rw [hmap'] at hY
      have key := bits1_in (FW none) trivial trivial rfl (fun m x w hx hT => callsIn_wide.2 (tz x hx w fun _ => hT)) (n + 1) l (by omega) b o s hin J Jx W (fun k W' hk => ?_) hY h0
      · exact callsIn_FW.2 (callsIn_FW.1 key)
      · obtain ⟨g1, g2⟩ := hG k W' hk
        refine ⟨?_, tab_of g1⟩
        obtain ⟨c1, c2, hcs, ⟨ad, us, hc1, _, _, hcell, hus, _⟩, hc2⟩ := g2
        rw [hc1] at hcs
        have hc2' : c2 = [] := hc2
        rw [hc2'] at hcs
        injection hcs with hcs _
        injection hcs with hcs; injection hcs with hcs
        subst hcs
        have := hcell 0 (.int .i64 s) (by rw [hus]; rfl)
        simpa [addr_add] using this
end Go.Proofs.YtbpoeigaoakdiaaDoor

/- Cuts: what the functions answer. -/
namespace Go.Proofs.YtbpoeigaoakdiaaDoor.H
open Go.Vc
abbrev tF : Ty := .fn 68 (.pr (.ptr I) .un)
def Ez : Env := { tys := [(3, I), (4, .bool), (5, .int .u8), (22, .sl tEv), (24, tTr), (28, tErr), (30, .sl I), (70, tEv), (74, .ar 5 I), (98, tF), (61, .sl (.sl I))], errT := 71, eqs := [], els := [(22, 70), (30, 3), (61, 30)] }
theorem Ez_ok : EnvOk Tryd.prog Ez := EnvOk.of_list (by kernel_rfl) (by kernel_rfl) (by kernel_rfl)
/-- of each process its events -/
def rowsT (t : Tr) (k : Nat) : List (List Int) := (List.range k).map fun (p : Nat) => ofT t (p : Int)
/-- is each number within its row? -/
def cutOk (t : Tr) (c : List Int) : Bool := (List.range c.length).all fun p => inB (c.getD p 0) 0 ((ofT t (p : Int)).length : Int)
def cutE (t : Tr) (c : List Int) : Int := if chk t = 0 then (if (c.length : Int) = t.1 then (if cutOk t c = true then 0 else 1) else 3) else chk t
def cOfs : Ctr := cdet [tTr, .sl I] (fun _ _ => True) (fun t c => [⟨.sl (.sl I), if cutE t c = 0 then rowsT t t.1.toNat else []⟩, ⟨tErr, cutE t c⟩])
def anOfs (t : Tr) (c : List Int) : Ann :=
  [joinAll, loopAt 3 Nat [(6, 30, Ty.sl I)] (fun st i => { St.at (St.only st [0, 1, 2, 4, 5, 6, 14]) [(15, .d I (i : Int))] with ob := st.ob.set 1 (.row 30 (.sl I) (rowsT t i)) }) (fun _ i => ((i : Int) ≤ t.1 ∨ i = 0) ∧ (0 < t.1 → chk t = 0 ∨ i = 0)) (fun i => t.1.toNat - i),
   loopAt 16 Nat [] (fun st i => St.at (St.only st [0, 1, 2, 4, 5, 6, 43, 44]) [(45, .d I (i : Int))]) (fun _ i => i ≤ c.length ∧ chk t = 0 ∧ (c.length : Int) = t.1 ∧ ∀ p, p < i → inB (c.getD p 0) 0 ((ofT t (p : Int)).length : Int) = true) (fun i => c.length - i)]
/-- a set and some places -/
def orB (s : Nat) (l : List Int) : Nat := l.foldl (fun a i => a ||| 2 ^ i.toNat) s
/-- the first ones of a process's events that a cut has -/
def takeC (t : Tr) (c : List Int) (p : Nat) : List Int := (ofT t (p : Int)).take (c.getD p 0).toNat
def setK (t : Tr) (c : List Int) (k : Nat) : Nat := (List.range k).foldl (fun s p => orB s (takeC t c p)) 0
def setN (t : Tr) (c : List Int) : Nat := setK t c c.length
def setE (t : Tr) (c : List Int) : Int := if cutE t c = 0 then (setN t c : Int) else 0
def cEvents : Ctr := cdet [tTr, .sl I] (fun _ _ => True) (fun t c => [⟨I, setE t c⟩, ⟨tErr, cutE t c⟩])
def anEvents (t : Tr) (c : List Int) : Ann :=
  [joinAll, loopAt 6 Nat [] (fun st i => St.at (St.only st [0, 1, 2, 4, 5, 6, 22, 23]) [(24, .d I (i : Int)), (8, .d I (setK t c i : Int))]) (fun _ i => i ≤ c.length ∧ cutE t c = 0) (fun i => c.length - i),
   loopAt 9 Nat [] (fun st i => St.at (St.only st [0, 1, 2, 4, 5, 6, 22, 23, 24, 34, 35]) [(36, .d I (i : Int)), (8, .d I (orB (setK t c (st.i 24).toNat) ((takeC t c (st.i 24).toNat).take i) : Int))])
     (fun st i => i ≤ (takeC t c (st.i 24).toNat).length ∧ True) (fun i => c.length + t.2.1.length - i)]
def cHas : Ctr := cdet [I, I] (fun (s i : Int) => (0 ≤ s ∧ 0 ≤ i ∧ i < 64) ∧ True) (fun (s i : Int) => [⟨.bool, s.toNat.testBit i.toNat⟩])
def cBitsF : Ctr := cdet [I] (fun _ => True) (fun (s : Int) => [⟨tF, some (some s, ())⟩])
/-- is a set of events closed: does it hold of what each of its events heard? -/
def heard (l : List Ev) (N : Nat) (i : Int) : Bool := decide ((l.getD i.toNat (0, 0, ())).2.1 < 0) || N.testBit (l.getD i.toNat (0, 0, ())).2.1.toNat
def wholeB (t : Tr) (c : List Int) : Bool := (bitsOf (setN t c : Int)).all (heard t.2.1 (setN t c))
def cIs : Ctr := cdet [tTr, .sl I] (fun _ _ => True) (fun t c => [⟨.bool, if cutE t c = 0 then wholeB t c else false⟩, ⟨tErr, cutE t c⟩])
def anIs (t : Tr) (c : List Int) : Ann :=
  [joinAll, rangeAt 6 I (List Int) id (fun st _ => St.only st [2, 4, 5, 6, 20]) (fun _ l => cutE t c = 0 ∧ ∀ y ∈ l, heard t.2.1 (setN t c) y = true)]
def anBits : Ann := [freezeAt 1 [1]]
def wholeP (t : Tr) (c : List Int) : Prop := cutE t c = 0 ∧ wholeB t c = true
/-- is one cut in the other one? -/
def leC (c d : List Int) : Prop := c.length = d.length ∧ ∀ p, p < c.length → c.getD p 0 ≤ d.getD p 0
/-- what the line in a cut is, as long as it is sought: in the cut, and no whole cut in it goes beyond -/
def lnP (t : Tr) (c l : List Int) : Prop := cutE t l = 0 ∧ leC l c ∧ ∀ d, wholeP t d → leC d c → leC d l
def lineP (t : Tr) (c l : List Int) : Prop := lnP t c l ∧ wholeB t l = true
def cLine : Ctr := cgen [tTr, .sl I] fun t c (k : List Dat → Prop) => ∀ l : List Int, (cutE t c = 0 → lineP t c l) → (cutE t c ≠ 0 → l = []) → k [⟨.sl I, l⟩, ⟨tErr, cutE t c⟩]
def sumC (l : List Int) : Nat := (l.map Int.toNat).sum
def rowOf (st : St) : Option (List Int) :=
  match st.ob.getD 1 .dead with
  | .row _ (.int .i64) l => some l
  | _ => none
/-- of the first processes all heard is in the set -/
def fineP (t : Tr) (l : List Int) (i : Nat) : Prop := ∀ p, p < i → ∀ y ∈ takeC t l p, heard t.2.1 (setN t l) y = true
def inLine (t : Tr) (c l0 : List Int) (x : Nat × Bool × List Int) : Prop :=
  x.1 ≤ c.length ∧ lnP t c x.2.2 ∧ leC x.2.2 l0 ∧ (x.2.1 = false → x.2.2 = l0 ∧ fineP t l0 x.1) ∧ (x.2.1 = true → sumC x.2.2 < sumC l0)
def inRow (t : Tr) (N : Nat) (l : List Int) (p n : Nat) : Prop := n ≤ (takeC t l p).length ∧ ∀ y ∈ (takeC t l p).take n, heard t.2.1 N y = true
def anLine (t : Tr) (c : List Int) : Ann :=
  [joinAll,
   loopAt 5 (List Int) [] (fun st l => { St.only st [0, 1, 2, 4, 5, 6, 8] with ob := st.ob.set 1 (.row 3 I l) }) (fun _ l => lnP t c l ∧ cutE t c = 0) sumC,
   loopAt 10 (Nat × Bool × List Int) [] (fun st x => { St.at (St.only st [0, 1, 2, 4, 5, 6, 8, 9, 37]) [(38, .d I (x.1 : Int)), (11, .d .bool x.2.1)] with ob := st.ob.set 1 (.row 3 I x.2.2) })
     (fun st x => match rowOf st with
       | some l0 => inLine t c l0 x
       | none => False) (fun x => c.length - x.1),
   loopAt 13 Nat [] (fun st n => St.at (St.only st [0, 1, 2, 4, 5, 6, 8, 9, 11, 12, 37, 38, 49, 50]) [(51, .d I (n : Int))])
     (fun st n => match rowOf st with
       | some l => inRow t (st.i 9).toNat l (st.i 38).toNat n
       | none => False) (fun n => c.length + t.2.1.length - n)]
end Go.Proofs.YtbpoeigaoakdiaaDoor.H

/- What the functions of this seat have to satisfy, by program: each verification condition in plain words. -/
namespace Go.Proofs.YtbpoeigaoakdiaaDoor
open Go.Vc H
set_option linter.unusedVariables false
theorem vcOfs (t : Tr) (c : List Int) (k : List Dat → Prop) : vcF ⟨Ez, [(10, cCheck), (44, cWithin), (15, cOf)], glT, [], []⟩ (anOfs t c) (Tryd.f52.body.getD .skip) Tryd.f52.ntmps [(.tmp 4, .sl (.sl I)), (.tmp 5, tErr)] [⟨tTr, t⟩, ⟨.sl I, c⟩] k = (
  (∃ (x : Nat), (((↑x : Int) ≤ t.fst ∨ x = (0 : Nat)) ∧ ((0 : Int) < t.fst → chk t = (0 : Int) ∨ x = (0 : Nat))) ∧ (t = t ∧ c = c ∧ ([] : List Nat) = [] ∧ True ∧ (0 : Int) = (0 : Int) ∧ True ∧ t.fst = t.fst ∧ (0 : Int) = (↑x : Int) ∧ True) ∧ (((24 : Nat) = (24 : Nat) ∧ t = t) ∧ ((30 : Nat) = (30 : Nat) ∧ [] = rowsT t x) ∧ True) ∧ tabD = tabD ∧ True) ∧ ∀ (x : Nat), ((↑x : Int) ≤ t.fst ∨ x = (0 : Nat)) ∧ ((0 : Int) < t.fst → chk t = (0 : Int) ∨ x = (0 : Nat)) → (decide ((↑x : Int) < t.fst) = true → True ∧ ((!decide (ofE t (↑x : Int) = (0 : Int))) = true → k [Dat.mk (I).sl.sl [], Dat.mk (Ty.err (71 : Nat)) (ofE t (↑x : Int))]) ∧ ((!decide (ofE t (↑x : Int) = (0 : Int))) = false → (rowsT t x).length + ((List.replicate (1 : Nat) []).set (0 : Nat) (if ofE t (↑x : Int) = (0 : Int) then ofT t (↑x : Int) else [])).length ≤ (1000000000 : Nat) ∧ inK IntKind.i64 ((↑x : Int) + (1 : Int)) ∧ ∃ (x_1 : Nat), (((↑x_1 : Int) ≤ t.fst ∨ x_1 = (0 : Nat)) ∧ ((0 : Int) < t.fst → chk t = (0 : Int) ∨ x_1 = (0 : Nat))) ∧ t.fst.toNat - x_1 < t.fst.toNat - x ∧ (t = t ∧ c = c ∧ ([] : List Nat) = [] ∧ True ∧ (0 : Int) = (0 : Int) ∧ True ∧ t.fst = t.fst ∧ (↑x : Int) + (1 : Int) = (↑x_1 : Int) ∧ True) ∧ (((24 : Nat) = (24 : Nat) ∧ t = t) ∧ ((30 : Nat) = (30 : Nat) ∧ (rowsT t x).append ((List.replicate (1 : Nat) []).set (0 : Nat) (if ofE t (↑x : Int) = (0 : Int) then ofT t (↑x : Int) else [])) = rowsT t x_1) ∧ True) ∧ tabD = tabD ∧ True)) ∧ (decide ((↑x : Int) < t.fst) = false → True ∧ ((!decide (chk t = (0 : Int))) = true → k [Dat.mk (I).sl.sl [], Dat.mk (Ty.err (71 : Nat)) (chk t)]) ∧ ((!decide (chk t = (0 : Int))) = false → ((!decide ((↑c.length : Int) = t.fst)) = true → (3 : Int) ≠ (0 : Int) ∧ k [Dat.mk (I).sl.sl [], Dat.mk (Ty.err (71 : Nat)) (3 : Int)]) ∧ ((!decide ((↑c.length : Int) = t.fst)) = false → (∃ (x_1 : Nat), (x_1 ≤ c.length ∧ chk t = (0 : Int) ∧ (↑c.length : Int) = t.fst ∧ ∀ (p : Nat), p < x_1 → inB (c.getD p (0 : Int)) (0 : Int) (↑(ofT t (↑p : Int)).length : Int) = true) ∧ (t = t ∧ c = c ∧ ([] : List Nat) = [] ∧ True ∧ (0 : Int) = (0 : Int) ∧ True ∧ c = c ∧ (↑c.length : Int) = (↑c.length : Int) ∧ (0 : Int) = (↑x_1 : Int) ∧ True) ∧ (((24 : Nat) = (24 : Nat) ∧ t = t) ∧ ((30 : Nat) = (30 : Nat) ∧ rowsT t x = rowsT t x) ∧ True) ∧ tabD = tabD ∧ True) ∧ ∀ (x_1 : Nat), (x_1 ≤ c.length ∧ chk t = (0 : Int) ∧ (↑c.length : Int) = t.fst ∧ ∀ (p : Nat), p < x_1 → inB (c.getD p (0 : Int)) (0 : Int) (↑(ofT t (↑p : Int)).length : Int) = true) → (decide ((↑x_1 : Int) < (↑c.length : Int)) = true → (0 : Int) ≤ (↑x_1 : Int) ∧ (↑x_1 : Int) < (↑c.length : Int) ∧ (0 : Int) ≤ (↑x_1 : Int) ∧ (↑x_1 : Int) < (↑(rowsT t x).length : Int) ∧ True ∧ ((!inB (c.getD (↑x_1 : Int).toNat (0 : Int)) (0 : Int) (↑((rowsT t x).getD (↑x_1 : Int).toNat []).length : Int)) = true → (1 : Int) ≠ (0 : Int) ∧ k [Dat.mk (I).sl.sl [], Dat.mk (Ty.err (71 : Nat)) (1 : Int)]) ∧ ((!inB (c.getD (↑x_1 : Int).toNat (0 : Int)) (0 : Int) (↑((rowsT t x).getD (↑x_1 : Int).toNat []).length : Int)) = false → inK IntKind.i64 ((↑x_1 : Int) + (1 : Int)) ∧ ∃ (x_2 : Nat), (x_2 ≤ c.length ∧ chk t = (0 : Int) ∧ (↑c.length : Int) = t.fst ∧ ∀ (p : Nat), p < x_2 → inB (c.getD p (0 : Int)) (0 : Int) (↑(ofT t (↑p : Int)).length : Int) = true) ∧ c.length - x_2 < c.length - x_1 ∧ (t = t ∧ c = c ∧ ([] : List Nat) = [] ∧ True ∧ (0 : Int) = (0 : Int) ∧ True ∧ c = c ∧ (↑c.length : Int) = (↑c.length : Int) ∧ (↑x_1 : Int) + (1 : Int) = (↑x_2 : Int) ∧ True) ∧ (((24 : Nat) = (24 : Nat) ∧ t = t) ∧ ((30 : Nat) = (30 : Nat) ∧ rowsT t x = rowsT t x) ∧ True) ∧ tabD = tabD ∧ True)) ∧ (decide ((↑x_1 : Int) < (↑c.length : Int)) = false → k [Dat.mk (I).sl.sl (rowsT t x), Dat.mk (Ty.err (71 : Nat)) (0 : Int)]))))) := by kernel_rfl
end Go.Proofs.YtbpoeigaoakdiaaDoor

/- Cuts: of each process its events. -/
namespace Go.Proofs.YtbpoeigaoakdiaaDoor.H
open Go.Vc
theorem rowsT_succ (t : Tr) (k : Nat) : rowsT t (k + 1) = rowsT t k ++ [ofT t (k : Int)] := by
  unfold rowsT
  rw [List.range_succ, List.map_append]; rfl
theorem rowsT_len (t : Tr) (k : Nat) : (rowsT t k).length = k := by simp [rowsT]
theorem rowsT_getD (t : Tr) {k p : Nat} (h : p < k) : (rowsT t k).getD p [] = ofT t (p : Int) := by
  unfold rowsT
  rw [List.getD_eq_getElem?_getD, List.getElem?_map, List.getElem?_range h]; rfl

theorem ofE_of {t : Tr} {x : Nat} (hx : (x : Int) < t.1) : ofE t (x : Int) = chk t := by
  unfold ofE
  by_cases h : chk t = 0
  · rw [if_pos h, if_pos (by unfold inB; simp; omega), h]
  · rw [if_neg h]

theorem ofs_vc (t : Tr) (c : List Int) (k : List Dat → Prop) (ht : inK .i64 t.1) (hc : c.length ≤ maxLen) (hk : k [⟨.sl (.sl I), if cutE t c = 0 then rowsT t t.1.toNat else []⟩, ⟨tErr, cutE t c⟩]) :
    vcF ⟨Ez, [(10, cCheck), (44, cWithin), (15, cOf)], glT, [], []⟩ (anOfs t c) (Tryd.f52.body.getD .skip) Tryd.f52.ntmps [(.tmp 4, .sl (.sl I)), (.tmp 5, tErr)] [⟨tTr, t⟩, ⟨.sl I, c⟩] k := by
  rw [vcOfs]
  have hml : maxLen ≤ 9223372036854775807 := by decide
  simp only [decide_eq_true_eq, decide_eq_false_iff_not, and_true, true_and, Bool.not_eq_true', Bool.not_eq_false', Int.toNat_natCast]
  have hb := inK_i64.1 ht
  have bad : chk t ≠ 0 → k [⟨.sl (.sl I), []⟩, ⟨tErr, chk t⟩] := by
    intro h
    have e : cutE t c = chk t := by unfold cutE; rw [if_neg h]
    rw [e, if_neg h] at hk; exact hk
  refine ⟨⟨0, ⟨.inr rfl, fun _ => .inr rfl⟩, rfl, rfl⟩, fun x ⟨hx, hx2⟩ => ⟨fun hlt => ?_, fun hge => ⟨bad, fun h => ⟨fun hne => ⟨by decide, ?_⟩, fun heq => ?_⟩⟩⟩⟩
  · rw [ofE_of hlt]
    refine ⟨bad, fun h => ?_⟩
    have hpr := (good_of h).procs
    rw [rowsT_len]
    refine ⟨by simp only [List.replicate, List.set, List.length_cons, List.length_nil]; omega, inK_i64.2 (by omega), x + 1, ⟨by omega, fun _ => .inl h⟩, by omega, rfl, ?_⟩
    rw [if_pos h, rowsT_succ]; rfl
  · have e : cutE t c = 3 := by unfold cutE; rw [if_pos h, if_neg hne]
    rw [e] at hk; exact hk
  · have hpr := (good_of h).procs
    have hx3 : x = t.1.toNat := by omega
    subst hx3
    simp only [rowsT_len]
    refine ⟨⟨0, ⟨by omega, h, heq, fun p hp => by omega⟩, rfl⟩, fun y ⟨hy, _, _, hall⟩ => ⟨fun hlt => ?_, fun hge2 => ?_⟩⟩
    · have hyt : y < t.1.toNat := by omega
      simp only [rowsT_getD t hyt]
      refine ⟨by omega, hlt, by omega, by omega, fun hw => ⟨by decide, ?_⟩, fun hw => ⟨inK_i64.2 (by omega), y + 1, ⟨by omega, h, heq, fun p hp => ?_⟩, by omega, rfl⟩⟩
      · have hno : cutOk t c = false := by
          cases hcase : cutOk t c with
          | false => rfl
          | true =>
            have := List.all_eq_true.1 hcase y (List.mem_range.2 (by omega))
            rw [hw] at this; cases this
        have e : cutE t c = 1 := by unfold cutE; rw [if_pos h, if_pos heq, if_neg (by rw [hno]; decide)]
        rw [e] at hk; exact hk
      · rcases Nat.lt_or_ge p y with hpy | hpy
        · exact hall p hpy
        · have : p = y := by omega
          subst this
          exact hw
    · have hyes : cutOk t c = true := List.all_eq_true.2 fun p hp => hall p (by have := List.mem_range.1 hp; omega)
      have e : cutE t c = 0 := by unfold cutE; rw [if_pos h, if_pos heq, if_pos hyes]
      rw [e] at hk; exact hk

theorem okOfs : PlainOk Tryd.prog glT 52 cOfs := by
  refine plain_of (CxOk.mk' Ez_ok rfl mixed (gl := glT) (GOk.cons (lift okCheck) Tryd.func10 (by kernel_rfl) (by kernel_rfl) (GOk.cons (lift okWithin) Tryd.func44 (by kernel_rfl) (by kernel_rfl) (GOk.cons (lift okOf) Tryd.func15 (by kernel_rfl) (by kernel_rfl) GOk.nil))) GoOk.nil noIt) Tryd.func52 (c := Tryd.f52.body.getD .skip) (rvs := [(.tmp 4, .sl (.sl I)), (.tmp 5, tErr)]) (by kernel_rfl) (by kernel_rfl) (by kernel_rfl) ?_
  intro ds k ⟨hp, hk⟩ hwf
  obtain ⟨t, c, rfl, -⟩ := dest2 hp
  exact ⟨anOfs t c, ofs_vc t c k (wf2 hwf).1.1 (wf2 hwf).2.1 hk⟩
end Go.Proofs.YtbpoeigaoakdiaaDoor.H

/- What the functions of this seat have to satisfy, by program: each verification condition in plain words. -/
namespace Go.Proofs.YtbpoeigaoakdiaaDoor
open Go.Vc H
set_option linter.unusedVariables false
theorem vcEvents (t : Tr) (c : List Int) (k : List Dat → Prop) : vcF ⟨Ez, [(52, cOfs)], glT, [], []⟩ (anEvents t c) (Tryd.f31.body.getD .skip) Tryd.f31.ntmps [(.tmp 4, I), (.tmp 5, tErr)] [⟨tTr, t⟩, ⟨.sl I, c⟩] k = (
  True ∧ ((!decide (cutE t c = (0 : Int))) = true → k [Dat.mk (I) (0 : Int), Dat.mk (Ty.err (71 : Nat)) (cutE t c)]) ∧ ((!decide (cutE t c = (0 : Int))) = false → (∃ (x : Nat), (x ≤ c.length ∧ cutE t c = (0 : Int)) ∧ (t = t ∧ c = c ∧ ([] : List Nat) = [] ∧ (0 : Int) = (0 : Int) ∧ (0 : Int) = (0 : Int) ∧ ((if cutE t c = (0 : Int) then rowsT t (Int.toNat t.fst) else []) = if cutE t c = (0 : Int) then rowsT t (Int.toNat t.fst) else []) ∧ (0 : Int) = (↑(setK t c x) : Int) ∧ c = c ∧ (↑c.length : Int) = (↑c.length : Int) ∧ (0 : Int) = (↑x : Int) ∧ True) ∧ (((24 : Nat) = (24 : Nat) ∧ t = t) ∧ True) ∧ tabD = tabD ∧ True) ∧ ∀ (x : Nat), x ≤ c.length ∧ cutE t c = (0 : Int) → (decide ((↑x : Int) < (↑c.length : Int)) = true → (0 : Int) ≤ (↑x : Int) ∧ (↑x : Int) < (↑c.length : Int) ∧ (0 : Int) ≤ (↑x : Int) ∧ (↑x : Int) < (↑(if cutE t c = (0 : Int) then rowsT t (Int.toNat t.fst) else []).length : Int) ∧ (0 : Int) ≤ (0 : Int) ∧ (0 : Int) ≤ c.getD (↑x : Int).toNat (0 : Int) ∧ c.getD (↑x : Int).toNat (0 : Int) ≤ (↑((if cutE t c = (0 : Int) then rowsT t (Int.toNat t.fst) else []).getD (↑x : Int).toNat []).length : Int) ∧ (∃ (x_1 : Nat), (x_1 ≤ (takeC t c (↑x : Int).toNat).length ∧ True) ∧ (t = t ∧ c = c ∧ ([] : List Nat) = [] ∧ (0 : Int) = (0 : Int) ∧ (0 : Int) = (0 : Int) ∧ ((if cutE t c = (0 : Int) then rowsT t (Int.toNat t.fst) else []) = if cutE t c = (0 : Int) then rowsT t (Int.toNat t.fst) else []) ∧ (↑(setK t c x) : Int) = (↑(orB (setK t c (↑x : Int).toNat) (List.take x_1 (takeC t c (↑x : Int).toNat))) : Int) ∧ c = c ∧ (↑c.length : Int) = (↑c.length : Int) ∧ (↑x : Int) = (↑x : Int) ∧ List.drop (Int.toNat (0 : Int)) (List.take (c.getD (↑x : Int).toNat (0 : Int)).toNat ((if cutE t c = (0 : Int) then rowsT t (Int.toNat t.fst) else []).getD (↑x : Int).toNat [])) = List.drop (Int.toNat (0 : Int)) (List.take (c.getD (↑x : Int).toNat (0 : Int)).toNat ((if cutE t c = (0 : Int) then rowsT t (Int.toNat t.fst) else []).getD (↑x : Int).toNat [])) ∧ (↑(List.drop (Int.toNat (0 : Int)) (List.take (c.getD (↑x : Int).toNat (0 : Int)).toNat ((if cutE t c = (0 : Int) then rowsT t (Int.toNat t.fst) else []).getD (↑x : Int).toNat []))).length : Int) = (↑(List.drop (Int.toNat (0 : Int)) (List.take (c.getD (↑x : Int).toNat (0 : Int)).toNat ((if cutE t c = (0 : Int) then rowsT t (Int.toNat t.fst) else []).getD (↑x : Int).toNat []))).length : Int) ∧ (0 : Int) = (↑x_1 : Int) ∧ True) ∧ (((24 : Nat) = (24 : Nat) ∧ t = t) ∧ True) ∧ tabD = tabD ∧ True) ∧ ∀ (x_1 : Nat), x_1 ≤ (takeC t c (↑x : Int).toNat).length ∧ True → (decide ((↑x_1 : Int) < (↑(List.drop (Int.toNat (0 : Int)) (List.take (c.getD (↑x : Int).toNat (0 : Int)).toNat ((if cutE t c = (0 : Int) then rowsT t (Int.toNat t.fst) else []).getD (↑x : Int).toNat []))).length : Int)) = true → (0 : Int) ≤ (↑x_1 : Int) ∧ (↑x_1 : Int) < (↑(List.drop (Int.toNat (0 : Int)) (List.take (c.getD (↑x : Int).toNat (0 : Int)).toNat ((if cutE t c = (0 : Int) then rowsT t (Int.toNat t.fst) else []).getD (↑x : Int).toNat []))).length : Int) ∧ (0 : Int) ≤ (List.drop (Int.toNat (0 : Int)) (List.take (c.getD (↑x : Int).toNat (0 : Int)).toNat ((if cutE t c = (0 : Int) then rowsT t (Int.toNat t.fst) else []).getD (↑x : Int).toNat []))).getD (↑x_1 : Int).toNat (0 : Int) ∧ (List.drop (Int.toNat (0 : Int)) (List.take (c.getD (↑x : Int).toNat (0 : Int)).toNat ((if cutE t c = (0 : Int) then rowsT t (Int.toNat t.fst) else []).getD (↑x : Int).toNat []))).getD (↑x_1 : Int).toNat (0 : Int) < (64 : Int) ∧ IntKind.i64.bits = (64 : Nat) ∧ inK IntKind.i64 ((1 : Int) * (2 : Int) ^ ((List.drop (Int.toNat (0 : Int)) (List.take (c.getD (↑x : Int).toNat (0 : Int)).toNat ((if cutE t c = (0 : Int) then rowsT t (Int.toNat t.fst) else []).getD (↑x : Int).toNat []))).getD (↑x_1 : Int).toNat (0 : Int)).toNat) ∧ (0 : Int) ≤ (↑(orB (setK t c (↑x : Int).toNat) (List.take x_1 (takeC t c (↑x : Int).toNat))) : Int) ∧ (0 : Int) ≤ (1 : Int) * (2 : Int) ^ ((List.drop (Int.toNat (0 : Int)) (List.take (c.getD (↑x : Int).toNat (0 : Int)).toNat ((if cutE t c = (0 : Int) then rowsT t (Int.toNat t.fst) else []).getD (↑x : Int).toNat []))).getD (↑x_1 : Int).toNat (0 : Int)).toNat ∧ inK IntKind.i64 ((↑x_1 : Int) + (1 : Int)) ∧ ∃ (x_2 : Nat), (x_2 ≤ (takeC t c (↑x : Int).toNat).length ∧ True) ∧ c.length + t.snd.fst.length - x_2 < c.length + t.snd.fst.length - x_1 ∧ (t = t ∧ c = c ∧ ([] : List Nat) = [] ∧ (0 : Int) = (0 : Int) ∧ (0 : Int) = (0 : Int) ∧ ((if cutE t c = (0 : Int) then rowsT t (Int.toNat t.fst) else []) = if cutE t c = (0 : Int) then rowsT t (Int.toNat t.fst) else []) ∧ (↑((↑(orB (setK t c (↑x : Int).toNat) (List.take x_1 (takeC t c (↑x : Int).toNat))) : Int).toNat ||| ((1 : Int) * (2 : Int) ^ ((List.drop (Int.toNat (0 : Int)) (List.take (c.getD (↑x : Int).toNat (0 : Int)).toNat ((if cutE t c = (0 : Int) then rowsT t (Int.toNat t.fst) else []).getD (↑x : Int).toNat []))).getD (↑x_1 : Int).toNat (0 : Int)).toNat).toNat) : Int) = (↑(orB (setK t c (↑x : Int).toNat) (List.take x_2 (takeC t c (↑x : Int).toNat))) : Int) ∧ c = c ∧ (↑c.length : Int) = (↑c.length : Int) ∧ (↑x : Int) = (↑x : Int) ∧ List.drop (Int.toNat (0 : Int)) (List.take (c.getD (↑x : Int).toNat (0 : Int)).toNat ((if cutE t c = (0 : Int) then rowsT t (Int.toNat t.fst) else []).getD (↑x : Int).toNat [])) = List.drop (Int.toNat (0 : Int)) (List.take (c.getD (↑x : Int).toNat (0 : Int)).toNat ((if cutE t c = (0 : Int) then rowsT t (Int.toNat t.fst) else []).getD (↑x : Int).toNat [])) ∧ (↑(List.drop (Int.toNat (0 : Int)) (List.take (c.getD (↑x : Int).toNat (0 : Int)).toNat ((if cutE t c = (0 : Int) then rowsT t (Int.toNat t.fst) else []).getD (↑x : Int).toNat []))).length : Int) = (↑(List.drop (Int.toNat (0 : Int)) (List.take (c.getD (↑x : Int).toNat (0 : Int)).toNat ((if cutE t c = (0 : Int) then rowsT t (Int.toNat t.fst) else []).getD (↑x : Int).toNat []))).length : Int) ∧ (↑x_1 : Int) + (1 : Int) = (↑x_2 : Int) ∧ True) ∧ (((24 : Nat) = (24 : Nat) ∧ t = t) ∧ True) ∧ tabD = tabD ∧ True) ∧ (decide ((↑x_1 : Int) < (↑(List.drop (Int.toNat (0 : Int)) (List.take (c.getD (↑x : Int).toNat (0 : Int)).toNat ((if cutE t c = (0 : Int) then rowsT t (Int.toNat t.fst) else []).getD (↑x : Int).toNat []))).length : Int)) = false → inK IntKind.i64 ((↑x : Int) + (1 : Int)) ∧ ∃ (x_2 : Nat), (x_2 ≤ c.length ∧ cutE t c = (0 : Int)) ∧ c.length - x_2 < c.length - x ∧ (t = t ∧ c = c ∧ ([] : List Nat) = [] ∧ (0 : Int) = (0 : Int) ∧ (0 : Int) = (0 : Int) ∧ ((if cutE t c = (0 : Int) then rowsT t (Int.toNat t.fst) else []) = if cutE t c = (0 : Int) then rowsT t (Int.toNat t.fst) else []) ∧ (↑(orB (setK t c (↑x : Int).toNat) (List.take x_1 (takeC t c (↑x : Int).toNat))) : Int) = (↑(setK t c x_2) : Int) ∧ c = c ∧ (↑c.length : Int) = (↑c.length : Int) ∧ (↑x : Int) + (1 : Int) = (↑x_2 : Int) ∧ True) ∧ (((24 : Nat) = (24 : Nat) ∧ t = t) ∧ True) ∧ tabD = tabD ∧ True)) ∧ (decide ((↑x : Int) < (↑c.length : Int)) = false → k [Dat.mk (I) (↑(setK t c x) : Int), Dat.mk (Ty.err (71 : Nat)) (0 : Int)]))) := by kernel_rfl
theorem vcHas (s i : Int) (k : List Dat → Prop) : vcF ⟨Ez, [], glT, [], []⟩ [] (Tryd.f59.body.getD .skip) Tryd.f59.ntmps [(.tmp 4, .bool)] [⟨I, s⟩, ⟨I, i⟩] k = (
  (0 : Int) ≤ i ∧ i < (64 : Int) ∧ IntKind.i64.bits = (64 : Nat) ∧ inK IntKind.i64 (s / (2 : Int) ^ i.toNat) ∧ (0 : Int) ≤ s / (2 : Int) ^ i.toNat ∧ (0 : Int) ≤ (1 : Int) ∧ k [Dat.mk Ty.bool (decide ((↑((s / (2 : Int) ^ i.toNat).toNat &&& Int.toNat (1 : Int)) : Int) = (1 : Int)))]) := by kernel_rfl
theorem vcBits (s : Int) (k : List Dat → Prop) : vcF ⟨Ez, [], glT, [], []⟩ anBits (Tryd.f58.body.getD .skip) Tryd.f58.ntmps [(.tmp 2, tF)] [⟨I, s⟩] k = (
  k [Dat.mk (Ty.fn (68 : Nat) ((I).ptr.pr Ty.un)) (some (some s, ()))]) := by kernel_rfl
theorem vcIs (t : Tr) (c : List Int) (k : List Dat → Prop) : vcF ⟨Ez, [(31, cEvents), (58, cBitsF), (59, cHas)], glT, [(68, cBits)], []⟩ (anIs t c) (Tryd.f32.body.getD .skip) Tryd.f32.ntmps [(.cell 4 4, .bool), (.cell 5 28, tErr)] [⟨tTr, t⟩, ⟨.sl I, c⟩] k = (
  True ∧ ((!decide (cutE t c = (0 : Int))) = true → k [Dat.mk Ty.bool false, Dat.mk (Ty.err (71 : Nat)) (cutE t c)]) ∧ ((!decide (cutE t c = (0 : Int))) = false → True ∧ (∃ (x : List Int), (cutE t c = (0 : Int) ∧ ∀ (y : Int), y ∈ x → heard t.snd.fst (setN t c) y = true) ∧ x = [] ∧ (([] : List Nat) = [] ∧ ([] : List Nat) = [] ∧ ([] : List Nat) = [] ∧ ([] : List Nat) = [] ∧ some (some (setE t c), ()) = some (some (setE t c), ()) ∧ True) ∧ (((24 : Nat) = (24 : Nat) ∧ t = t) ∧ ((4 : Nat) = (4 : Nat) ∧ false = false) ∧ ((28 : Nat) = (28 : Nat) ∧ (0 : Int) = (0 : Int)) ∧ ((3 : Nat) = (3 : Nat) ∧ setE t c = setE t c) ∧ True) ∧ tabD = tabD ∧ True) ∧ (∀ (x : List Int), (cutE t c = (0 : Int) ∧ ∀ (y : Int), y ∈ x → heard t.snd.fst (setN t c) y = true) → some (some (setE t c), ()) = some (some (setE t c), ())) ∧ (∀ (x : List Int) (y : Int) (rest : List Int), (cutE t c = (0 : Int) ∧ ∀ (y : Int), y ∈ x → heard t.snd.fst (setN t c) y = true) → bitsOf (setE t c) = x ++ y :: rest → (0 : Int) ≤ y ∧ y < (↑(List.length t.snd.fst) : Int) ∧ (decide ((0 : Int) ≤ (List.getD t.snd.fst y.toNat ((0 : Int), (0 : Int), ())).snd.fst) = true → (((0 : Int) ≤ setE t c ∧ (0 : Int) ≤ (List.getD t.snd.fst y.toNat ((0 : Int), (0 : Int), ())).snd.fst ∧ (List.getD t.snd.fst y.toNat ((0 : Int), (0 : Int), ())).snd.fst < (64 : Int)) ∧ True) ∧ ((!(setE t c).toNat.testBit (Int.toNat (List.getD t.snd.fst y.toNat ((0 : Int), (0 : Int), ())).snd.fst)) = true → k [Dat.mk Ty.bool false, Dat.mk (Ty.err (71 : Nat)) (0 : Int)]) ∧ ((!(setE t c).toNat.testBit (Int.toNat (List.getD t.snd.fst y.toNat ((0 : Int), (0 : Int), ())).snd.fst)) = false → ∃ (x_1 : List Int), (cutE t c = (0 : Int) ∧ ∀ (y : Int), y ∈ x_1 → heard t.snd.fst (setN t c) y = true) ∧ x_1 = x ++ [y] ∧ (([] : List Nat) = [] ∧ ([] : List Nat) = [] ∧ ([] : List Nat) = [] ∧ ([] : List Nat) = [] ∧ some (some (setE t c), ()) = some (some (setE t c), ()) ∧ True) ∧ (((24 : Nat) = (24 : Nat) ∧ t = t) ∧ ((4 : Nat) = (4 : Nat) ∧ false = false) ∧ ((28 : Nat) = (28 : Nat) ∧ (0 : Int) = (0 : Int)) ∧ ((3 : Nat) = (3 : Nat) ∧ setE t c = setE t c) ∧ True) ∧ tabD = tabD ∧ True)) ∧ (decide ((0 : Int) ≤ (List.getD t.snd.fst y.toNat ((0 : Int), (0 : Int), ())).snd.fst) = false → ∃ (x_1 : List Int), (cutE t c = (0 : Int) ∧ ∀ (y : Int), y ∈ x_1 → heard t.snd.fst (setN t c) y = true) ∧ x_1 = x ++ [y] ∧ (([] : List Nat) = [] ∧ ([] : List Nat) = [] ∧ ([] : List Nat) = [] ∧ ([] : List Nat) = [] ∧ some (some (setE t c), ()) = some (some (setE t c), ()) ∧ True) ∧ (((24 : Nat) = (24 : Nat) ∧ t = t) ∧ ((4 : Nat) = (4 : Nat) ∧ false = false) ∧ ((28 : Nat) = (28 : Nat) ∧ (0 : Int) = (0 : Int)) ∧ ((3 : Nat) = (3 : Nat) ∧ setE t c = setE t c) ∧ True) ∧ tabD = tabD ∧ True)) ∧ ∀ (x : List Int), (cutE t c = (0 : Int) ∧ ∀ (y : Int), y ∈ x → heard t.snd.fst (setN t c) y = true) → x = bitsOf (setE t c) → k [Dat.mk Ty.bool true, Dat.mk (Ty.err (71 : Nat)) (0 : Int)])) := by kernel_rfl
end Go.Proofs.YtbpoeigaoakdiaaDoor

/- Cuts: the events of a cut, and whether it is whole. -/
namespace Go.Proofs.YtbpoeigaoakdiaaDoor.H
open Go.Vc

theorem cut_ok {t : Tr} {c : List Int} (h : cutE t c = 0) : chk t = 0 ∧ (c.length : Int) = t.1 ∧ ∀ p, p < c.length → 0 ≤ c.getD p 0 ∧ c.getD p 0 ≤ ((ofT t (p : Int)).length : Int) := by
  unfold cutE at h
  split at h
  · rename_i h1
    split at h
    · rename_i h2
      split at h
      · rename_i h3
        refine ⟨h1, h2, fun p hp => ?_⟩
        have := List.all_eq_true.1 h3 p (List.mem_range.2 hp)
        unfold inB at this
        simpa using this
      · exact absurd h (by decide)
    · exact absurd h (by decide)
  · rename_i h1; exact absurd h h1
theorem ofT_mem {t : Tr} {p x : Int} (h : x ∈ ofT t p) : 0 ≤ x ∧ x < (t.2.1.length : Int) ∧ (t.2.1.getD x.toNat (0, 0, ())).1 = p := by
  unfold ofT ofU at h
  obtain ⟨i, hi, rfl⟩ := List.mem_map.1 h
  obtain ⟨h1, h2⟩ := List.mem_filter.1 hi
  have := List.mem_range.1 h1
  exact ⟨by omega, by omega, by simpa using h2⟩
theorem takeC_mem {t : Tr} {c : List Int} {p : Nat} {x : Int} (h : x ∈ takeC t c p) : 0 ≤ x ∧ x < (t.2.1.length : Int) ∧ (t.2.1.getD x.toNat (0, 0, ())).1 = (p : Int) := ofT_mem (List.mem_of_mem_take h)
theorem setK_succ (t : Tr) (c : List Int) (k : Nat) : setK t c (k + 1) = orB (setK t c k) (takeC t c k) := by
  unfold setK
  rw [List.range_succ, List.foldl_append]; rfl
theorem orB_snoc (s : Nat) (l : List Int) (x : Int) : orB s (l ++ [x]) = orB s l ||| 2 ^ x.toNat := by
  unfold orB
  rw [List.foldl_append]; rfl
theorem getD_at {l : List Int} {i : Nat} (h : i < l.length) : l.getD i 0 = l[i] := by
  rw [List.getD_eq_getElem?_getD, List.getElem?_eq_getElem h]; rfl
theorem take_snoc {l : List Int} {i : Nat} (h : i < l.length) : l.take (i + 1) = l.take i ++ [l.getD i 0] := by
  rw [List.take_add_one, List.getElem?_eq_getElem h, getD_at h]; rfl
theorem orB_bit (l : List Int) : ∀ (s i : Nat), (orB s l).testBit i = true ↔ s.testBit i = true ∨ ∃ x ∈ l, x.toNat = i := by
  induction l with
  | nil => intro s i; simp [orB]
  | cons a r ih =>
    intro s i
    have : orB s (a :: r) = orB (s ||| 2 ^ a.toNat) r := rfl
    rw [this, ih, bit_or2]
    constructor
    · rintro ((h | h) | ⟨x, hx, h⟩)
      · exact .inl h
      · exact .inr ⟨a, .head _, h.symm⟩
      · exact .inr ⟨x, .tail _ hx, h⟩
    · rintro (h | ⟨x, hx, h⟩)
      · exact .inl (.inl h)
      · rcases List.mem_cons.1 hx with rfl | hx
        · exact .inl (.inr h.symm)
        · exact .inr ⟨x, hx, h⟩
theorem setK_bit (t : Tr) (c : List Int) (i : Nat) : ∀ k, (setK t c k).testBit i = true ↔ ∃ p, p < k ∧ (i : Int) ∈ takeC t c p := by
  intro k
  induction k with
  | zero =>
    have : setK t c 0 = 0 := rfl
    rw [this, Nat.zero_testBit]
    exact ⟨fun h => (by cases h), fun ⟨p, h, _⟩ => absurd h (by omega)⟩
  | succ k ih =>
    rw [setK_succ, orB_bit, ih]
    constructor
    · rintro (⟨p, hp, h⟩ | ⟨x, hx, h⟩)
      · exact ⟨p, by omega, h⟩
      · have := (takeC_mem hx).1
        have e : x = (i : Int) := by omega
        exact ⟨k, by omega, e ▸ hx⟩
    · rintro ⟨p, hp, h⟩
      rcases Nat.lt_or_ge p k with hl | hl
      · exact .inl ⟨p, hl, h⟩
      · have : p = k := by omega
        subst this
        exact .inr ⟨_, h, rfl⟩
theorem setN_lt {t : Tr} (g : Good t) (c : List Int) (k : Nat) : setK t c k < 2 ^ 24 := by
  apply Nat.lt_pow_two_of_testBit
  intro i hi
  cases h : (setK t c k).testBit i with
  | false => rfl
  | true =>
    obtain ⟨p, _, hm⟩ := (setK_bit t c i k).1 h
    have := takeC_mem hm
    have := g.len
    omega

theorem events_vc (t : Tr) (c : List Int) (k : List Dat → Prop) (hk : k [⟨I, setE t c⟩, ⟨tErr, cutE t c⟩]) :
    vcF ⟨Ez, [(52, cOfs)], glT, [], []⟩ (anEvents t c) (Tryd.f31.body.getD .skip) Tryd.f31.ntmps [(.tmp 4, I), (.tmp 5, tErr)] [⟨tTr, t⟩, ⟨.sl I, c⟩] k := by
  rw [vcEvents]
  simp only [decide_eq_true_eq, decide_eq_false_iff_not, and_true, true_and, Bool.not_eq_true', Bool.not_eq_false', Int.toNat_natCast]
  refine ⟨fun h => ?_, fun h => ?_⟩
  · have e : setE t c = 0 := by unfold setE; rw [if_neg h]
    rw [e] at hk; exact hk
  · obtain ⟨h1, h2, h3⟩ := cut_ok h
    have g := good_of h1
    have hl := g.len
    have hpr := g.procs
    have hif : (if cutE t c = 0 then rowsT t t.1.toNat else []) = rowsT t t.1.toNat := if_pos h
    simp only [hif, rowsT_len]
    simp only [h, and_true]
    refine ⟨⟨0, by omega, rfl, rfl⟩, fun x hx => ⟨fun hlt => ?_, fun hge => ?_⟩⟩
    · have hxt : x < t.1.toNat := by omega
      have hc := h3 x (by omega)
      have htk : List.drop (Int.toNat (0 : Int)) (List.take (c.getD x 0).toNat (ofT t (x : Int))) = takeC t c x := rfl
      simp only [rowsT_getD t hxt, htk]
      refine ⟨by omega, hlt, by omega, by omega, by omega, hc.1, hc.2, ⟨0, by omega, rfl, rfl⟩, fun y hy => ⟨fun hlt2 => ?_, fun hge2 => ⟨inK_i64.2 (by omega), x + 1, by omega, by omega, ?_, by omega⟩⟩⟩
      · have hyl : y < (takeC t c x).length := by omega
        have hm : (takeC t c x).getD y 0 ∈ takeC t c x := by rw [getD_at hyl]; exact List.getElem_mem hyl
        have hmm := takeC_mem hm
        have hlen : (takeC t c x).length ≤ t.2.1.length := by
          unfold takeC
          rw [List.length_take]
          have := ofU_len t.2.1 (x : Int) t.2.1.length
          unfold ofT
          omega
        rw [one_shl]
        have hp := two_pow_le (n := ((takeC t c x).getD y 0).toNat) (by omega)
        have hp2 := two_pow_pos ((takeC t c x).getD y 0).toNat
        have hpe : (((2 ^ ((takeC t c x).getD y 0).toNat : Nat)) : Int) = (2 : Int) ^ ((takeC t c x).getD y 0).toNat := by rw [Int.natCast_pow]; rfl
        refine ⟨by omega, hlt2, hmm.1, by omega, rfl, inK_i64.2 (by omega), by omega, by omega, inK_i64.2 (by omega), y + 1, by omega, by omega, ?_, by omega⟩
        rw [take_snoc hyl, orB_snoc, Int.toNat_natCast]
      · have : y = (takeC t c x).length := by omega
        subst this
        rw [List.take_length, setK_succ]
    · have : x = c.length := by omega
      subst this
      have e : setE t c = (setK t c c.length : Int) := by unfold setE; rw [if_pos h]; rfl
      rw [e, h] at hk; exact hk

theorem okEvents : PlainOk Tryd.prog glT 31 cEvents := by
  refine plain_of (CxOk.mk' Ez_ok rfl mixed (gl := glT) (GOk.cons okOfs Tryd.func52 (by kernel_rfl) (by kernel_rfl) GOk.nil) GoOk.nil noIt) Tryd.func31 (c := Tryd.f31.body.getD .skip) (rvs := [(.tmp 4, I), (.tmp 5, tErr)]) (by kernel_rfl) (by kernel_rfl) (by kernel_rfl) ?_
  intro ds k ⟨hp, hk⟩ hwf
  obtain ⟨t, c, rfl, -⟩ := dest2 hp
  exact ⟨anEvents t c, events_vc t c k hk⟩

theorem okHas : PlainOk Tryd.prog glT 59 cHas := by
  refine plain_of (CxOk.mk' Ez_ok rfl mixed (gl := glT) GOk.nil GoOk.nil noIt) Tryd.func59 (c := Tryd.f59.body.getD .skip) (rvs := [(.tmp 4, .bool)]) (by kernel_rfl) (by kernel_rfl) (by kernel_rfl) ?_
  intro ds k ⟨hp, hk⟩ hwf
  obtain ⟨s, i, rfl, ⟨⟨hs, hi, hi2⟩, -⟩⟩ := dest2 hp
  have hk : k [⟨.bool, s.toNat.testBit i.toNat⟩] := hk
  refine ⟨[], ?_⟩
  rw [vcHas]
  have hsw := inK_i64.1 (wf2 hwf).1
  have hpos : (0 : Int) < 2 ^ i.toNat := Int.pow_pos (by omega)
  have hdlt : s / (2 : Int) ^ i.toNat ≤ 9223372036854775807 := Int.le_trans (Int.ediv_le_self _ hs) hsw.2
  have hd1 : 0 ≤ s / (2 : Int) ^ i.toNat := Int.ediv_nonneg hs (by omega)
  have hd2 : s / (2 : Int) ^ i.toNat ≤ s := Int.ediv_le_self _ hs
  refine ⟨hi, hi2, rfl, inK_i64.2 ⟨Int.le_trans (by decide) hd1, hdlt⟩, hd1, by decide, ?_⟩
  have e1 : (s / (2 : Int) ^ i.toNat).toNat = s.toNat / 2 ^ i.toNat := by
    obtain ⟨n, rfl⟩ := Int.eq_ofNat_of_zero_le hs
    have : ((2 : Int) ^ i.toNat) = ((2 ^ i.toNat : Nat) : Int) := by rw [Int.natCast_pow]; rfl
    rw [this]; rfl
  have : decide ((((s / (2 : Int) ^ i.toNat).toNat &&& Int.toNat (1 : Int) : Nat) : Int) = 1) = s.toNat.testBit i.toNat := by
    have h1 : Int.toNat (1 : Int) = 1 := rfl
    rw [e1, h1, Nat.and_one_is_mod, Nat.testBit_eq_decide_div_mod_eq]
    by_cases h : s.toNat / 2 ^ i.toNat % 2 = 1
    · rw [h]; rfl
    · rw [decide_eq_false h]
      exact decide_eq_false (by omega)
  rw [this]
  exact hk

theorem okBits : PlainOk Tryd.prog glT 58 cBitsF := by
  refine plain_of (CxOk.mk' Ez_ok rfl mixed (gl := glT) GOk.nil GoOk.nil noIt) Tryd.func58 (c := Tryd.f58.body.getD .skip) (rvs := [(.tmp 2, tF)]) (by kernel_rfl) (by kernel_rfl) (by kernel_rfl) ?_
  intro ds k ⟨hp, hk⟩ hwf
  obtain ⟨s, rfl, -⟩ := dest1 hp
  refine ⟨anBits, ?_⟩
  rw [vcBits]
  exact hk

theorem bitsOf_mem {N : Nat} (hN : N < 2 ^ 64) (y : Int) : y ∈ bitsOf (N : Int) ↔ ∃ i : Nat, y = (i : Int) ∧ N.testBit i = true := by
  have e : ((N : Int) % 18446744073709551616).toNat = N := by
    have : N < 18446744073709551616 := hN
    omega
  unfold bitsOf bitsN
  rw [e]
  constructor
  · intro h
    obtain ⟨i, hi, rfl⟩ := List.mem_map.1 h
    exact ⟨i, rfl, (List.mem_filter.1 hi).2⟩
  · rintro ⟨i, rfl, hi⟩
    refine List.mem_map.2 ⟨i, List.mem_filter.2 ⟨List.mem_range'_1.2 ⟨by omega, ?_⟩, hi⟩, rfl⟩
    rcases Nat.lt_or_ge i 64 with h | h
    · omega
    · have := Nat.testBit_lt_two_pow (Nat.lt_of_lt_of_le hN (Nat.pow_le_pow_right (by omega) h))
      rw [this] at hi; cases hi

theorem is_vc (t : Tr) (c : List Int) (k : List Dat → Prop) (hk : k [⟨.bool, if cutE t c = 0 then wholeB t c else false⟩, ⟨tErr, cutE t c⟩]) :
    vcF ⟨Ez, [(31, cEvents), (58, cBitsF), (59, cHas)], glT, [(68, cBits)], []⟩ (anIs t c) (Tryd.f32.body.getD .skip) Tryd.f32.ntmps [(.cell 4 4, .bool), (.cell 5 28, tErr)] [⟨tTr, t⟩, ⟨.sl I, c⟩] k := by
  rw [vcIs]
  simp only [decide_eq_true_eq, decide_eq_false_iff_not, and_true, true_and, Bool.not_eq_true', Bool.not_eq_false']
  refine ⟨fun h => ?_, fun h => ?_⟩
  · rw [if_neg h] at hk; exact hk
  · obtain ⟨h1, h2, h3⟩ := cut_ok h
    have g := good_of h1
    have hl := g.len
    have hS : setE t c = (setN t c : Int) := by unfold setE; rw [if_pos h]
    have hlt : setN t c < 2 ^ 64 := Nat.lt_trans (setN_lt g c _) (by decide)
    rw [if_pos h] at hk
    rw [hS]
    simp only [h, true_and, Int.toNat_natCast]
    rw [h] at hk
    have ext : ∀ (x : List Int) (y : Int), (∀ z ∈ x, heard t.2.1 (setN t c) z = true) → heard t.2.1 (setN t c) y = true → ∀ z ∈ x ++ [y], heard t.2.1 (setN t c) z = true := by
      intro x y hx hy z hz
      rcases List.mem_append.1 hz with hz | hz
      · exact hx z hz
      · rw [List.mem_singleton.1 hz]; exact hy
    refine ⟨⟨[], fun y hy => (by cases hy), rfl⟩, fun _ _ => trivial, fun x y rest hx hxs => ?_, fun x hx hxs => ?_⟩
    · have hy : y ∈ bitsOf (setN t c : Int) := by rw [hxs]; exact List.mem_append_right _ (.head _)
      obtain ⟨i, rfl, hi⟩ := (bitsOf_mem hlt y).1 hy
      obtain ⟨p, _, hm⟩ := (setK_bit t c i c.length).1 hi
      have hmm := takeC_mem hm
      have hil : i < t.2.1.length := by omega
      have he := g.ev i hil
      rw [Int.toNat_natCast]
      refine ⟨by omega, by omega, fun h0 => ⟨⟨by omega, h0, by omega⟩, fun hb => ?_, fun hb => ⟨x ++ [(i : Int)], ext x i hx ?_, rfl⟩⟩, fun h0 => ⟨x ++ [(i : Int)], ext x i hx ?_, rfl⟩⟩
      · have : wholeB t c = false := by
          cases hw : wholeB t c with
          | false => rfl
          | true =>
            have := List.all_eq_true.1 hw _ hy
            unfold heard at this
            rw [Int.toNat_natCast, hb, decide_eq_false (by omega)] at this
            cases this
        rw [this] at hk; exact hk
      · unfold heard
        rw [Int.toNat_natCast, hb, Bool.or_true]
      · unfold heard
        rw [Int.toNat_natCast, decide_eq_true (by omega), Bool.true_or]
    · have : wholeB t c = true := List.all_eq_true.2 fun y hy => hx y (hxs ▸ hy)
      rw [this] at hk; exact hk

theorem itB : ∀ g c, (g, c) ∈ [(68, cBits)] → ItOk Tryd.prog glT g c := fun g c h => by
  obtain ⟨rfl, rfl⟩ := Prod.mk.inj (List.mem_singleton.1 h)
  exact itBits

theorem okIs : PlainOk Tryd.prog glT 32 cIs := by
  refine plain_of (CxOk.mk' Ez_ok rfl mixed (gl := glT) (GOk.cons okEvents Tryd.func31 (by kernel_rfl) (by kernel_rfl) (GOk.cons okBits Tryd.func58 (by kernel_rfl) (by kernel_rfl) (GOk.cons okHas Tryd.func59 (by kernel_rfl) (by kernel_rfl) GOk.nil))) GoOk.nil itB) Tryd.func32 (c := Tryd.f32.body.getD .skip) (rvs := [(.cell 4 4, .bool), (.cell 5 28, tErr)]) (by kernel_rfl) (by kernel_rfl) (by kernel_rfl) ?_
  intro ds k ⟨hp, hk⟩ hwf
  obtain ⟨t, c, rfl, -⟩ := dest2 hp
  exact ⟨anIs t c, is_vc t c k hk⟩
end Go.Proofs.YtbpoeigaoakdiaaDoor.H

/- Cuts: the mathematics. -/
namespace Go.Proofs.YtbpoeigaoakdiaaDoor.H
open Go.Vc

theorem cut_mk {t : Tr} {c : List Int} (h1 : chk t = 0) (h2 : (c.length : Int) = t.1) (h3 : ∀ p, p < c.length → 0 ≤ c.getD p 0 ∧ c.getD p 0 ≤ ((ofT t (p : Int)).length : Int)) : cutE t c = 0 := by
  unfold cutE
  have : cutOk t c = true := List.all_eq_true.2 fun p hp => by
    have := h3 p (List.mem_range.1 hp)
    unfold inB
    simpa using this
  rw [if_pos h1, if_pos h2, if_pos this]

theorem setN_bit (t : Tr) (c : List Int) (i : Nat) : (setN t c).testBit i = true ↔ ∃ p, p < c.length ∧ (i : Int) ∈ takeC t c p := setK_bit t c i _

theorem take_le {c d : List Int} {t : Tr} {p : Nat} (h : c.getD p 0 ≤ d.getD p 0) {y : Int} (hy : y ∈ takeC t c p) : y ∈ takeC t d p := by
  unfold takeC at *
  exact List.mem_of_mem_take (i := (c.getD p 0).toNat) (by rw [List.take_take, Nat.min_eq_left (by omega)]; exact hy)

theorem setN_le {t : Tr} {c d : List Int} (h : leC c d) {i : Nat} (hi : (setN t c).testBit i = true) : (setN t d).testBit i = true := by
  obtain ⟨p, hp, hm⟩ := (setN_bit t c i).1 hi
  exact (setN_bit t d i).2 ⟨p, by rw [← h.1]; exact hp, take_le (h.2 p hp) hm⟩

theorem heard_iff {l : List Ev} {N : Nat} {y : Int} : heard l N y = true ↔ (0 ≤ (l.getD y.toNat (0, 0, ())).2.1 → N.testBit (l.getD y.toNat (0, 0, ())).2.1.toNat = true) := by
  unfold heard
  rw [Bool.or_eq_true, decide_eq_true_eq]
  constructor
  · rintro (h | h) h0
    · omega
    · exact h
  · intro h
    by_cases h0 : 0 ≤ (l.getD y.toNat (0, 0, ())).2.1
    · exact .inr (h h0)
    · exact .inl (by omega)

theorem heard_le {t : Tr} {c d : List Int} (h : leC c d) {y : Int} (hy : heard t.2.1 (setN t c) y = true) : heard t.2.1 (setN t d) y = true := by
  rw [heard_iff] at *
  exact fun h0 => setN_le h (hy h0)

theorem whole_iff {t : Tr} (h : chk t = 0) (c : List Int) : wholeB t c = true ↔ fineP t c c.length := by
  have g := good_of h
  have hlt : setN t c < 2 ^ 64 := Nat.lt_trans (setN_lt g c _) (by decide)
  unfold wholeB
  rw [List.all_eq_true]
  constructor
  · intro hw p hp y hy
    have hm := takeC_mem hy
    refine hw y ((bitsOf_mem hlt y).2 ⟨y.toNat, by omega, (setN_bit t c _).2 ⟨p, hp, ?_⟩⟩)
    rw [show ((y.toNat : Nat) : Int) = y by omega]; exact hy
  · intro hf y hy
    obtain ⟨i, rfl, hi⟩ := (bitsOf_mem hlt y).1 hy
    obtain ⟨p, hp, hm⟩ := (setN_bit t c i).1 hi
    exact hf p hp _ hm

theorem getD_set_eq {l : List Int} {p q : Nat} {n : Int} (hp : p < l.length) : (l.set p n).getD q 0 = if p = q then n else l.getD q 0 := by
  rw [List.getD_eq_getElem?_getD, List.getElem?_set]
  by_cases h : p = q
  · rw [if_pos h, if_pos h]
    subst h
    rw [if_pos hp]; rfl
  · rw [if_neg h, if_neg h, List.getD_eq_getElem?_getD]

theorem takeC_len (t : Tr) (c : List Int) (p : Nat) : (takeC t c p).length ≤ (c.getD p 0).toNat ∧ (takeC t c p).length ≤ (ofT t (p : Int)).length := by
  unfold takeC
  rw [List.length_take]
  omega

theorem takeC_at {t : Tr} {c : List Int} {p n : Nat} (h : n < (takeC t c p).length) : (takeC t c p).getD n 0 = (ofT t (p : Int)).getD n 0 := by
  have h2 := takeC_len t c p
  rw [getD_at h, getD_at (by omega)]
  exact List.getElem_take

/-- what was heard of and is not there: the cut has to end ahead of it -/
theorem line_step {t : Tr} {c l l0 : List Int} (h : lnP t c l) (hle : leC l l0) {p n : Nat} (hp : p < l.length) (hn : n < (takeC t l p).length)
    (hno : heard t.2.1 (setN t l0) ((takeC t l p).getD n 0) = false) : lnP t c (l.set p (n : Int)) := by
  obtain ⟨h1, h2, h3⟩ := h
  obtain ⟨k1, k2, k3⟩ := cut_ok h1
  have htl := takeC_len t l p
  have hlp := k3 p hp
  refine ⟨cut_mk k1 (by rw [List.length_set]; exact k2) fun q hq => ?_, ⟨by rw [List.length_set]; exact h2.1, fun q hq => ?_⟩, fun d hd hdc => ?_⟩
  · rw [List.length_set] at hq
    rw [getD_set_eq hp]
    split
    · rename_i e; subst e; omega
    · exact k3 q hq
  · rw [List.length_set] at hq
    rw [getD_set_eq hp]
    have := h2.2 q hq
    split
    · rename_i e; subst e; omega
    · exact this
  · have hdl := h3 d hd hdc
    refine ⟨by rw [List.length_set]; exact hdl.1, fun q hq => ?_⟩
    rw [getD_set_eq hp]
    split
    · rename_i e
      subst e
      refine Int.not_lt.1 fun hgt => ?_
      have hnd : n < (takeC t d p).length := by
        unfold takeC
        rw [List.length_take]
        omega
      have hy : (takeC t l p).getD n 0 ∈ takeC t d p := by
        rw [takeC_at hn, ← takeC_at hnd, getD_at hnd]
        exact List.getElem_mem hnd
      have hh := (whole_iff k1 d).1 hd.2 p hq _ hy
      have := heard_le hle (heard_le hdl hh)
      rw [hno] at this; cases this
    · exact hdl.2 q hq

theorem sum_set : ∀ (l : List Int) (p : Nat) (n : Int), p < l.length → n.toNat < (l.getD p 0).toNat → sumC (l.set p n) < sumC l := by
  intro l
  induction l with
  | nil => intro p n hp; cases hp
  | cons a r ih =>
    intro p n hp hn
    cases p with
    | zero =>
      have hn : n.toNat < a.toNat := hn
      simp only [sumC, List.set_cons_zero, List.map_cons, List.sum_cons]
      omega
    | succ p =>
      have := ih p n (by simpa using hp) hn
      simp only [sumC, List.set_cons_succ, List.map_cons, List.sum_cons] at *
      omega

/-- the greater numbers, or the lesser ones, of two whole cuts -/
theorem whole_max {t : Tr} {x y m : List Int} (hx : wholeP t x) (hy : wholeP t y) (hm : m.length = x.length) (h : ∀ p, p < x.length → m.getD p 0 = if x.getD p 0 < y.getD p 0 then y.getD p 0 else x.getD p 0) : wholeP t m := by
  obtain ⟨a1, a2, a3⟩ := cut_ok hx.1
  obtain ⟨b1, b2, b3⟩ := cut_ok hy.1
  have hxy : x.length = y.length := by omega
  have lx : leC x m := ⟨hm.symm, fun p hp => by rw [h p hp]; split <;> omega⟩
  have ly : leC y m := ⟨by omega, fun p hp => by rw [h p (by omega)]; split <;> omega⟩
  refine ⟨cut_mk a1 (by omega) fun p hp => ?_, (whole_iff a1 m).2 fun p hp z hz => ?_⟩
  · rw [h p (by omega)]
    split
    · exact b3 p (by omega)
    · exact a3 p (by omega)
  · have hh := h p (by omega)
    split at hh
    · exact heard_le ly ((whole_iff a1 y).1 hy.2 p (by omega) z (take_le (c := m) (by omega) hz))
    · exact heard_le lx ((whole_iff a1 x).1 hx.2 p (by omega) z (take_le (c := m) (by omega) hz))

theorem whole_min {t : Tr} {x y m : List Int} (hx : wholeP t x) (hy : wholeP t y) (hm : m.length = x.length) (h : ∀ p, p < x.length → m.getD p 0 = if x.getD p 0 < y.getD p 0 then x.getD p 0 else y.getD p 0) : wholeP t m := by
  obtain ⟨a1, a2, a3⟩ := cut_ok hx.1
  obtain ⟨b1, b2, b3⟩ := cut_ok hy.1
  have hxy : x.length = y.length := by omega
  refine ⟨cut_mk a1 (by omega) fun p hp => ?_, (whole_iff a1 m).2 fun p hp z hz => ?_⟩
  · rw [h p (by omega)]
    split
    · exact a3 p (by omega)
    · exact b3 p (by omega)
  · have hh := h p (by omega)
    have hzx := (whole_iff a1 x).1 hx.2 p (by omega) z (take_le (c := m) (by rw [hh]; split <;> omega) hz)
    have hzy := (whole_iff a1 y).1 hy.2 p (by omega) z (take_le (c := m) (by rw [hh]; split <;> omega) hz)
    rw [heard_iff] at *
    intro h0
    obtain ⟨q, hq, hqm⟩ := (setN_bit t x _).1 (hzx h0)
    obtain ⟨r, hr, hrm⟩ := (setN_bit t y _).1 (hzy h0)
    have e1 := (takeC_mem hqm).2.2
    have e2 := (takeC_mem hrm).2.2
    have : q = r := by omega
    subst this
    refine (setN_bit t m _).2 ⟨q, by omega, ?_⟩
    have hh2 := h q hq
    split at hh2
    · exact take_le (c := x) (by omega) hqm
    · exact take_le (c := y) (by omega) hrm

theorem ofU_sorted (l : List Ev) (p : Int) (k : Nat) : (ofU l p k).Pairwise (· < ·) := by
  unfold ofU
  rw [List.pairwise_map]
  exact ((List.pairwise_lt_range (n := k)).filter _).imp fun h => by omega

theorem ofT_has {t : Tr} {i : Nat} (hi : i < t.2.1.length) : (i : Int) ∈ ofT t (t.2.1.getD i (0, 0, ())).1 := by
  unfold ofT ofU
  exact List.mem_map.2 ⟨i, List.mem_filter.2 ⟨List.mem_range.2 hi, by simp⟩, rfl⟩

theorem take_down {t : Tr} {c : List Int} {p i j : Nat} (hi : (i : Int) ∈ takeC t c p) (hji : j < i) (hj : (t.2.1.getD j (0, 0, ())).1 = (t.2.1.getD i (0, 0, ())).1) : (j : Int) ∈ takeC t c p := by
  have hm := takeC_mem hi
  have hjp : (t.2.1.getD j (0, 0, ())).1 = (p : Int) := by rw [hj]; exact hm.2.2
  have hjm : (j : Int) ∈ ofT t (p : Int) := by
    have := ofT_has (t := t) (i := j) (by omega)
    rw [hjp] at this; exact this
  have hs := ofU_sorted t.2.1 (p : Int) t.2.1.length
  have e : ofU t.2.1 (p : Int) t.2.1.length = takeC t c p ++ (ofT t (p : Int)).drop (c.getD p 0).toNat := (List.take_append_drop _ _).symm
  have hjm' : (j : Int) ∈ ofU t.2.1 (p : Int) t.2.1.length := hjm
  rw [e] at hs hjm'
  rcases List.mem_append.1 hjm' with h | h
  · exact h
  · have := (List.pairwise_append.1 hs).2.2 _ hi _ h
    omega

/-- a whole cut has all that happened before what it has -/
theorem whole_before {t : Tr} (h : chk t = 0) (c : List Int) (hc : cutE t c = 0) :
    wholeB t c = true ↔ ∀ i, i < t.2.1.length → (setN t c).testBit i = true → ∀ k, (bB t.2.1 i).testBit k = true → (setN t c).testBit k = true := by
  have g := good_of h
  rw [whole_iff h]
  constructor
  · intro hf i
    induction i using Nat.strongRecOn with
    | _ i ih =>
      intro hi hs k hk
      obtain ⟨j, hj, hjk⟩ := (bB_bit (good_prc' g) (good_frm' g) hi k).1 hk
      obtain ⟨p, hp, hm⟩ := (setN_bit t c i).1 hs
      have hjs : (setN t c).testBit j = true := by
        rcases hj with ⟨hji, h1 | h1⟩
        · refine (setN_bit t c j).2 ⟨p, hp, take_down hm hji ((prc_eq (gd_of h) hi (by omega)).2 h1.1)⟩
        · have := (heard_iff).1 (hf p hp _ hm)
          rw [Int.toNat_natCast] at this
          have h1' : (t.2.1.getD i (0, 0, ())).2.1 = (j : Int) := h1
          rw [h1', Int.toNat_natCast] at this
          exact this (by omega)
      rcases hjk with hjk | rfl
      · exact ih j hj.1 (by have := hj.1; omega) hjs k hjk
      · exact hjs
  · intro hb p hp y hy
    have hm := takeC_mem hy
    obtain ⟨i, rfl⟩ := Int.eq_ofNat_of_zero_le hm.1
    have hil : i < t.2.1.length := by have := hm.2.1; omega
    rw [heard_iff, Int.toNat_natCast]
    intro h0
    have he := g.ev i hil
    refine hb i hil ((setN_bit t c i).2 ⟨p, hp, hy⟩) _ (bB_must (good_prc' g) (good_frm' g) hil (by omega) (.inr ?_))
    show (t.2.1.getD i (0, 0, ())).2.1 = _
    omega
end Go.Proofs.YtbpoeigaoakdiaaDoor.H

/- How many whole cuts there are: plainly. -/
namespace Go.Proofs.YtbpoeigaoakdiaaDoor.H
open Go.Vc
def lenT (t : Tr) (p : Nat) : Nat := (ofT t (p : Int)).length
/-- all that go on from c by d numbers, each within its row -/
def allL (t : Tr) : Nat → List Int → List (List Int)
  | 0, c => [c]
  | d + 1, c => (List.range (lenT t c.length + 1)).flatMap fun (k : Nat) => allL t d (c ++ [(k : Int)])
def cutsN (t : Tr) (d : Nat) (c : List Int) : Nat := ((allL t d c).filter (wholeB t)).length
def countW (t : Tr) : Nat := cutsN t t.1.toNat []
/-- the product of so many rows' lengths, each and one, from one on -/
def prodL (t : Tr) : Nat → Nat → Nat
  | 0, _ => 1
  | d + 1, p => (lenT t p + 1) * prodL t d (p + 1)

theorem sum_const {α : Type} (f : α → Nat) (b : Nat) : ∀ l : List α, (∀ x ∈ l, f x = b) → (l.map f).sum = l.length * b
  | [], _ => by simp
  | x :: r, h => by
    have ih := sum_const f b r fun y hy => h y (List.mem_cons_of_mem _ hy)
    rw [List.map_cons, List.sum_cons, ih, h x (List.mem_cons_self ..), List.length_cons, Nat.succ_mul]
    omega
theorem allL_len (t : Tr) : ∀ (d : Nat) (c : List Int), (allL t d c).length = prodL t d c.length
  | 0, _ => rfl
  | d + 1, c => by
    unfold allL prodL
    rw [List.length_flatMap, sum_const _ (prodL t d (c.length + 1)) _ fun k _ => by rw [allL_len t d, List.length_append]; rfl, List.length_range]
theorem allL_mem (t : Tr) (x : List Int) : ∀ (d : Nat) (c : List Int), x ∈ allL t d c ↔ ∃ y, x = c ++ y ∧ y.length = d ∧ ∀ p, p < d → 0 ≤ y.getD p 0 ∧ y.getD p 0 ≤ (lenT t (c.length + p) : Int)
  | 0, c => by
    unfold allL
    rw [List.mem_singleton]
    constructor
    · rintro rfl; exact ⟨[], by simp, rfl, fun p hp => absurd hp (Nat.not_lt_zero _)⟩
    · rintro ⟨y, rfl, h, _⟩
      rw [List.eq_nil_of_length_eq_zero h, List.append_nil]
  | d + 1, c => by
    unfold allL
    rw [List.mem_flatMap]
    constructor
    · rintro ⟨k, hk, hx⟩
      obtain ⟨y, rfl, h1, h2⟩ := (allL_mem t x d _).1 hx
      have hk := List.mem_range.1 hk
      refine ⟨(k : Int) :: y, by simp, by simp [h1], fun p hp => ?_⟩
      cases p with
      | zero => simp only [List.getD_cons_zero, Nat.add_zero]; omega
      | succ p =>
        have := h2 p (by omega)
        rw [List.length_append, List.length_singleton] at this
        rw [List.getD_cons_succ, show c.length + (p + 1) = c.length + 1 + p by omega]
        exact this
    · rintro ⟨y, rfl, h1, h2⟩
      cases y with
      | nil => simp at h1
      | cons a y =>
        have h0 := h2 0 (by omega)
        simp only [List.getD_cons_zero, Nat.add_zero] at h0
        refine ⟨a.toNat, List.mem_range.2 (by omega), (allL_mem t _ d _).2 ⟨y, ?_, by simpa using h1, fun p hp => ?_⟩⟩
        · rw [show ((a.toNat : Nat) : Int) = a by omega, List.append_assoc]; rfl
        · have := h2 (p + 1) (by omega)
          rw [List.getD_cons_succ, show c.length + (p + 1) = c.length + 1 + p by omega] at this
          rw [List.length_append, List.length_singleton]
          exact this
theorem allL_nodup (t : Tr) : ∀ (d : Nat) (c : List Int), (allL t d c).Nodup
  | 0, c => by unfold allL; simp
  | d + 1, c => by
    unfold allL
    rw [List.nodup_iff_pairwise_ne, List.pairwise_flatMap]
    refine ⟨fun k _ => List.nodup_iff_pairwise_ne.1 (allL_nodup t d _), ?_⟩
    refine List.Pairwise.imp ?_ (List.nodup_iff_pairwise_ne.1 (List.nodup_range (n := lenT t c.length + 1)))
    intro k k' hne x hx y hy e
    refine hne ?_
    subst e
    obtain ⟨y1, e1, _⟩ := (allL_mem t x d _).1 hx
    obtain ⟨y2, e2, _⟩ := (allL_mem t x d _).1 hy
    rw [e1, List.append_assoc, List.append_assoc] at e2
    have := List.append_cancel_left e2
    injection this with h1 h2
    omega
/-- all cuts of a trace -/
theorem all_iff {t : Tr} (h : chk t = 0) (x : List Int) : x ∈ allL t t.1.toNat [] ↔ cutE t x = 0 := by
  have hp := (good_of h).procs
  rw [allL_mem]
  constructor
  · rintro ⟨y, rfl, h1, h2⟩
    exact cut_mk h (by omega) fun p hpl => by
      have := h2 p (by omega)
      rw [List.length_nil, Nat.zero_add] at this
      exact this
  · intro hc
    obtain ⟨_, h1, h2⟩ := cut_ok hc
    refine ⟨x, rfl, by omega, fun p hpl => ?_⟩
    rw [List.length_nil, Nat.zero_add]
    exact h2 p (by omega)
theorem cutsN_succ (t : Tr) (d : Nat) (c : List Int) : cutsN t (d + 1) c = ((List.range (lenT t c.length + 1)).map fun k => cutsN t d (c ++ [((k : Nat) : Int)])).sum := by
  unfold cutsN
  rw [allL, List.filter_flatMap, List.length_flatMap]
/-- the whole cuts -/
def wholeL (t : Tr) : List (List Int) := (allL t t.1.toNat []).filter (wholeB t)
theorem whole_mem {t : Tr} (h : chk t = 0) (x : List Int) : x ∈ wholeL t ↔ wholeP t x := by
  unfold wholeL wholeP
  rw [List.mem_filter, all_iff h]
theorem wholeL_nodup (t : Tr) : (wholeL t).Nodup := by
  unfold wholeL
  exact List.nodup_iff_pairwise_ne.2 ((List.nodup_iff_pairwise_ne.1 (allL_nodup t _ _)).filter _)
theorem countW_eq (t : Tr) : countW t = (wholeL t).length := rfl

/-! All whole cuts are reached, event by event. -/
theorem ofT_at {t : Tr} {p n : Nat} (h : n < lenT t p) : (ofT t (p : Int)).getD n 0 ∈ ofT t (p : Int) := by
  unfold lenT at h
  rw [List.getD_eq_getElem?_getD, List.getElem?_eq_getElem h]
  exact List.getElem_mem h
theorem takeC_iff {t : Tr} {c : List Int} {p : Nat} {x : Int} : x ∈ takeC t c p ↔ ∃ n : Nat, n < lenT t p ∧ n < (c.getD p 0).toNat ∧ x = (ofT t (p : Int)).getD n 0 := by
  unfold takeC lenT
  constructor
  · intro hx
    obtain ⟨n, hn⟩ := List.getElem?_of_mem hx
    obtain ⟨hl, e⟩ := List.getElem?_eq_some_iff.1 hn
    rw [List.length_take] at hl
    refine ⟨n, by omega, by omega, ?_⟩
    rw [List.getElem_take] at e
    rw [List.getD_eq_getElem?_getD, List.getElem?_eq_getElem (by omega), ← e]; rfl
  · rintro ⟨n, h1, h2, rfl⟩
    have e : (ofT t (p : Int)).getD n 0 = (ofT t (p : Int))[n] := by rw [List.getD_eq_getElem?_getD, List.getElem?_eq_getElem h1]; rfl
    rw [e]
    exact List.mem_take_iff_getElem.2 ⟨n, by omega, rfl⟩
theorem ofT_mono {t : Tr} {p a b : Nat} (hab : a < b) (hb : b < lenT t p) : (ofT t (p : Int)).getD a 0 < (ofT t (p : Int)).getD b 0 := by
  have h := ofU_sorted t.2.1 (p : Int) t.2.1.length
  unfold lenT at hb
  rw [List.getD_eq_getElem?_getD, List.getD_eq_getElem?_getD, List.getElem?_eq_getElem hb, List.getElem?_eq_getElem (by omega)]
  exact List.pairwise_iff_getElem.1 h a b _ _ hab
/-- the last event of a cut -/
theorem last_ev {t : Tr} {x : List Int} (hx : wholeP t x) (hpos : ∃ p, p < x.length ∧ 0 < x.getD p 0) :
    ∃ p n : Nat, p < x.length ∧ x.getD p 0 = (n : Int) + 1 ∧ n < lenT t p ∧ ∀ q, q < x.length → ∀ y ∈ takeC t x q, y ≤ (ofT t (p : Int)).getD n 0 := by
  obtain ⟨h0, hl, hb⟩ := cut_ok hx.1
  have key : ∀ k : Nat, (∀ q, q < x.length → ∀ y ∈ takeC t x q, y < (k : Int)) → ∃ p n : Nat, p < x.length ∧ x.getD p 0 = (n : Int) + 1 ∧ n < lenT t p ∧ ∀ q, q < x.length → ∀ y ∈ takeC t x q, y ≤ (ofT t (p : Int)).getD n 0 := by
    intro k
    induction k with
    | zero =>
      intro hk
      obtain ⟨p, hp, hpos⟩ := hpos
      have hbp := hb p hp
      have hm : (ofT t (p : Int)).getD 0 0 ∈ takeC t x p := takeC_iff.2 ⟨0, by unfold lenT; omega, by omega, rfl⟩
      have h1 := hk p hp _ hm
      have h2 := (takeC_mem hm).1
      omega
    | succ k ih =>
      intro hk
      by_cases hh : ∃ q, q < x.length ∧ (k : Int) ∈ takeC t x q
      · obtain ⟨p, hp, hm⟩ := hh
        obtain ⟨n, hn1, hn2, hn⟩ := takeC_iff.1 hm
        have hbp := hb p hp
        by_cases hlast : n + 1 < (x.getD p 0).toNat
        · have hl2 : n + 1 < lenT t p := by unfold lenT; omega
          have h1 := ofT_mono (t := t) (p := p) (a := n) (b := n + 1) (by omega) hl2
          have h2 := hk p hp _ (takeC_iff.2 ⟨n + 1, hl2, hlast, rfl⟩)
          omega
        · refine ⟨p, n, hp, by omega, hn1, fun q hq y hy => ?_⟩
          have := hk q hq y hy
          omega
      · refine ih fun q hq y hy => ?_
        have h1 := hk q hq y hy
        have h2 : y ≠ (k : Int) := fun e => hh ⟨q, hq, e ▸ hy⟩
        omega
  refine key t.2.1.length fun q _ y hy => (takeC_mem hy).2.1
theorem whole_less {t : Tr} {x : List Int} (hx : wholeP t x) {p n : Nat} (hp : p < x.length) (hn : x.getD p 0 = (n : Int) + 1) (hnl : n < lenT t p)
    (hlast : ∀ q, q < x.length → ∀ y ∈ takeC t x q, y ≤ (ofT t (p : Int)).getD n 0) : wholeP t (x.set p (n : Int)) := by
  obtain ⟨h0, hl, hb⟩ := cut_ok hx.1
  have g := good_of h0
  have hw := (whole_iff h0 x).1 hx.2
  have hat : ∀ q, (x.set p (n : Int)).getD q 0 = if p = q then (n : Int) else x.getD q 0 := fun q => getD_set_eq hp
  have hsub : ∀ q y, y ∈ takeC t (x.set p (n : Int)) q → y ∈ takeC t x q := by
    intro q y hy
    refine take_le ?_ hy
    rw [hat]
    split
    · rename_i e; subst e; omega
    · exact Int.le_refl _
  have hkeep : ∀ q y, y ∈ takeC t x q → y ≠ (ofT t (p : Int)).getD n 0 → y ∈ takeC t (x.set p (n : Int)) q := by
    intro q y hy hne
    obtain ⟨m, h1, h2, rfl⟩ := takeC_iff.1 hy
    refine takeC_iff.2 ⟨m, h1, ?_, rfl⟩
    rw [hat]
    split
    · rename_i e
      subst e
      have : m ≠ n := fun e => hne (by rw [e])
      omega
    · exact h2
  refine ⟨cut_mk h0 (by rw [List.length_set]; exact hl) fun q hq => ?_, (whole_iff h0 _).2 fun q hq y hy => ?_⟩
  · rw [List.length_set] at hq
    have := hb q hq
    rw [hat]
    split
    · rename_i e; subst e; unfold lenT at hnl; omega
    · exact this
  · rw [List.length_set] at hq
    have hy' := hsub q y hy
    have hwy := hw q hq y hy'
    rw [heard_iff] at hwy ⊢
    intro hf
    have h1 := hwy hf
    obtain ⟨r, hr, hm⟩ := (setN_bit t x _).1 h1
    refine (setN_bit t _ _).2 ⟨r, by rw [List.length_set]; exact hr, hkeep r _ hm fun e => ?_⟩
    have hy1 := takeC_mem hy'
    have hev := g.ev y.toNat (by omega)
    have h2 := hlast q hq y hy'
    omega
theorem reach {t : Tr} (h : chk t = 0) (S : List Int → Prop) (h0 : S (List.replicate t.1.toNat 0)) (hc : ∀ x, S x → ∀ p, p < t.1.toNat → wholeP t (x.set p (x.getD p 0 + 1)) → S (x.set p (x.getD p 0 + 1))) :
    ∀ (m : Nat) (x : List Int), sumC x ≤ m → wholeP t x → S x := by
  intro m
  have hpr := (good_of h).procs
  have base : ∀ x : List Int, wholeP t x → (¬ ∃ p, p < x.length ∧ 0 < x.getD p 0) → S x := by
    intro x hx hno
    obtain ⟨_, hl, hb⟩ := cut_ok hx.1
    have e : x = List.replicate t.1.toNat 0 := by
      refine List.ext_getElem (by simp; omega) fun p h1 h2 => ?_
      have h3 := hb p h1
      have h4 : ¬ 0 < x.getD p 0 := fun e => hno ⟨p, h1, e⟩
      rw [List.getElem_replicate]
      have h5 : x.getD p 0 = x[p] := by rw [List.getD_eq_getElem?_getD, List.getElem?_eq_getElem h1]; rfl
      omega
    rw [e]; exact h0
  induction m with
  | zero =>
    intro x hm hx
    refine base x hx ?_
    rintro ⟨p, hp, hpos⟩
    have := sum_set x p 0 hp (by omega)
    omega
  | succ m ih =>
    intro x hm hx
    by_cases hpos : ∃ p, p < x.length ∧ 0 < x.getD p 0
    · obtain ⟨p, n, hp, hn, hnl, hlast⟩ := last_ev hx hpos
      have hw := whole_less hx hp hn hnl hlast
      obtain ⟨_, hl, hb⟩ := cut_ok hx.1
      have hs := sum_set x p (n : Int) hp (by omega)
      have hS := ih _ (by omega) hw
      have e : (x.set p (n : Int)).set p ((x.set p (n : Int)).getD p 0 + 1) = x := by
        rw [getD_set_eq hp, if_pos rfl, List.set_set, ← hn, List.getD_eq_getElem?_getD, List.getElem?_eq_getElem hp]
        exact List.set_getElem_self hp
      have := hc _ hS p (by omega) (by rw [e]; exact hx)
      rw [e] at this
      exact this
    · exact base x hx hpos

/-! The list that the program finds. -/
/-- five numbers: a whole cut, and nothing behind it -/
def fiveP (t : Tr) (y : List Int) : Prop := y.length = 5 ∧ wholeP t (y.take t.1.toNat) ∧ ∀ p, t.1.toNat ≤ p → p < 5 → y.getD p 0 = 0
theorem getD_take {l : List Int} {n p : Nat} (h : p < n) : (l.take n).getD p 0 = l.getD p 0 := by
  rw [List.getD_eq_getElem?_getD, List.getD_eq_getElem?_getD, List.getElem?_take_of_lt h]
theorem five_inj {t : Tr} {x y : List Int} (hx : fiveP t x) (hy : fiveP t y) (h : x.take t.1.toNat = y.take t.1.toNat) : x = y := by
  refine List.ext_getElem (by rw [hx.1, hy.1]) fun p h1 h2 => ?_
  have e1 : x.getD p 0 = x[p] := by rw [List.getD_eq_getElem?_getD, List.getElem?_eq_getElem h1]; rfl
  have e2 : y.getD p 0 = y[p] := by rw [List.getD_eq_getElem?_getD, List.getElem?_eq_getElem h2]; rfl
  rw [← e1, ← e2]
  have l1 := hx.1
  by_cases hp : p < t.1.toNat
  · rw [← getD_take (l := x) hp, ← getD_take (l := y) hp, h]
  · rw [hx.2.2 p (by omega) (by omega), hy.2.2 p (by omega) (by omega)]
theorem take_nodup {t : Tr} {L : List (List Int)} (hn : L.Nodup) (hL : ∀ y ∈ L, fiveP t y) : (L.map fun y => y.take t.1.toNat).Nodup := by
  rw [List.nodup_iff_pairwise_ne, List.pairwise_map]
  refine List.Pairwise.imp_of_mem ?_ (List.nodup_iff_pairwise_ne.1 hn)
  intro a b ha hb hne e
  exact hne (five_inj (hL a ha) (hL b hb) e)
theorem found_le {t : Tr} (h : chk t = 0) {L : List (List Int)} (hn : L.Nodup) (hL : ∀ y ∈ L, fiveP t y) : L.length ≤ countW t := by
  have h1 := (take_nodup hn hL).length_le_of_subset (l₂ := wholeL t) fun x hx => by
    obtain ⟨y, hy, rfl⟩ := List.mem_map.1 hx
    exact (whole_mem h _).2 (hL y hy).2.1
  rw [List.length_map] at h1
  exact h1
theorem take_set {l : List Int} {n p : Nat} {v : Int} : (l.set p v).take n = (l.take n).set p v := List.take_set
theorem found_all {t : Tr} (h : chk t = 0) {L : List (List Int)} (hn : L.Nodup) (hL : ∀ y ∈ L, fiveP t y) (h0 : List.replicate 5 (0 : Int) ∈ L)
    (hc : ∀ y ∈ L, ∀ p, p < t.1.toNat → y.getD p 0 + 1 ≤ (lenT t p : Int) → wholeB t ((y.set p (y.getD p 0 + 1)).take t.1.toNat) = true → y.set p (y.getD p 0 + 1) ∈ L) : L.length = countW t := by
  have hpr := (good_of h).procs
  refine Nat.le_antisymm (found_le h hn hL) ?_
  have key := (wholeL_nodup t).length_le_of_subset (l₂ := L.map fun y => y.take t.1.toNat) fun x hx => by
    have hx := (whole_mem h _).1 hx
    refine reach h (fun x => x ∈ L.map fun y => y.take t.1.toNat) ?_ ?_ _ x (Nat.le_refl _) hx
    · exact List.mem_map.2 ⟨_, h0, by rw [List.take_replicate, Nat.min_eq_left (by omega)]⟩
    · intro z hz p hp hw
      obtain ⟨y, hy, rfl⟩ := List.mem_map.1 hz
      have hb := (cut_ok hw.1).2.2
      have hlen : (y.take t.1.toNat).length = t.1.toNat := by rw [List.length_take, (hL y hy).1]; omega
      have hbp := hb p (by rw [List.length_set, hlen]; exact hp)
      rw [getD_set_eq (by rw [hlen]; exact hp), if_pos rfl] at hbp
      rw [getD_take hp] at hw hbp ⊢
      rw [← take_set] at hw ⊢
      exact List.mem_map.2 ⟨_, hc y hy p hp hbp.2 hw.2, rfl⟩
  rw [List.length_map] at key
  exact key
theorem five_step {t : Tr} {y : List Int} (h : fiveP t y) {p : Nat} (hp : p < t.1.toNat) (hp5 : t.1.toNat ≤ 5) (hw : wholeP t ((y.set p (y.getD p 0 + 1)).take t.1.toNat)) : fiveP t (y.set p (y.getD p 0 + 1)) := by
  refine ⟨by rw [List.length_set]; exact h.1, hw, fun q hq hq5 => ?_⟩
  rw [getD_set_eq (by rw [h.1]; omega), if_neg (by omega)]
  exact h.2.2 q hq hq5
theorem lenT_le {t : Tr} (h : chk t = 0) (p : Nat) : lenT t p ≤ 24 := by
  have := ofU_len t.2.1 (p : Int) t.2.1.length
  have := (good_of h).len
  unfold lenT ofT
  omega
theorem prodL_le {t : Tr} (h : chk t = 0) : ∀ (d p : Nat), prodL t d p ≤ 25 ^ d
  | 0, _ => Nat.le_refl _
  | d + 1, p => by
    have h1 := prodL_le h d (p + 1)
    have h2 := lenT_le h p
    unfold prodL
    rw [Nat.pow_succ, Nat.mul_comm]
    exact Nat.mul_le_mul h1 (by omega)
theorem countW_le {t : Tr} : countW t ≤ prodL t t.1.toNat 0 := by
  rw [countW_eq]
  unfold wholeL
  exact Nat.le_trans (List.length_filter_le _ _) (Nat.le_of_eq (allL_len t _ _))
theorem zero_five {t : Tr} (h : chk t = 0) : fiveP t (List.replicate 5 0) := by
  have hpr := (good_of h).procs
  have e : (List.replicate 5 (0 : Int)).take t.1.toNat = List.replicate t.1.toNat 0 := by rw [List.take_replicate, Nat.min_eq_left (by omega)]
  have z : ∀ p n : Nat, (List.replicate n (0 : Int)).getD p 0 = 0 := fun p n => by
    rw [List.getD_eq_getElem?_getD, List.getElem?_replicate]; split <;> rfl
  refine ⟨rfl, ?_, fun p _ _ => z p 5⟩
  rw [e]
  refine ⟨cut_mk h (by rw [List.length_replicate]; omega) fun p _ => by rw [z]; omega, (whole_iff h _).2 fun p _ y hy => ?_⟩
  obtain ⟨n, _, h2, _⟩ := takeC_iff.1 hy
  rw [z] at h2
  exact absurd h2 (Nat.not_lt_zero _)

/-! As many as there are events, and one. -/
def preC (t : Tr) (m : Nat) : List Int := (List.range t.1.toNat).map fun (p : Nat) => ((ofU t.2.1 (p : Int) m).length : Int)
theorem ofU_add (l : List Ev) (p : Int) : ∀ (k m : Nat), ∃ r, ofU l p (m + k) = ofU l p m ++ r
  | 0, m => ⟨[], by simp⟩
  | k + 1, m => by
    obtain ⟨r, e⟩ := ofU_add l p k m
    rw [← Nat.add_assoc, ofU_succ, e, List.append_assoc]
    exact ⟨_, rfl⟩
theorem preC_len (t : Tr) (m : Nat) : (preC t m).length = t.1.toNat := by simp [preC]
theorem preC_at {t : Tr} {m p : Nat} (h : p < t.1.toNat) : (preC t m).getD p 0 = ((ofU t.2.1 (p : Int) m).length : Int) := by
  unfold preC
  rw [List.getD_eq_getElem?_getD, List.getElem?_map, List.getElem?_range h]; rfl
theorem pre_take {t : Tr} {m p : Nat} (hm : m ≤ t.2.1.length) (h : p < t.1.toNat) : takeC t (preC t m) p = ofU t.2.1 (p : Int) m := by
  unfold takeC
  rw [preC_at h, Int.toNat_natCast]
  obtain ⟨r, e⟩ := ofU_add t.2.1 (p : Int) (t.2.1.length - m) m
  rw [show m + (t.2.1.length - m) = t.2.1.length by omega] at e
  unfold ofT
  rw [e, List.take_left]
theorem ofU_mem {l : List Ev} {p x : Int} {m : Nat} : x ∈ ofU l p m ↔ ∃ i : Nat, i < m ∧ (l.getD i (0, 0, ())).1 = p ∧ x = (i : Int) := by
  unfold ofU
  rw [List.mem_map]
  constructor
  · rintro ⟨i, hi, rfl⟩
    obtain ⟨h1, h2⟩ := List.mem_filter.1 hi
    exact ⟨i, List.mem_range.1 h1, of_decide_eq_true h2, rfl⟩
  · rintro ⟨i, h1, h2, rfl⟩
    exact ⟨i, List.mem_filter.2 ⟨List.mem_range.2 h1, decide_eq_true h2⟩, rfl⟩
theorem pre_set {t : Tr} (h : chk t = 0) {m : Nat} (hm : m ≤ t.2.1.length) (i : Nat) : (setN t (preC t m)).testBit i = true ↔ i < m := by
  have g := good_of h
  rw [setN_bit]
  constructor
  · rintro ⟨p, hp, hi⟩
    rw [preC_len] at hp
    rw [pre_take hm hp] at hi
    obtain ⟨j, h1, _, h3⟩ := ofU_mem.1 hi
    omega
  · intro hi
    have hev := g.ev i (by omega)
    refine ⟨(t.2.1.getD i (0, 0, ())).1.toNat, by rw [preC_len]; omega, ?_⟩
    rw [pre_take hm (by omega)]
    exact ofU_mem.2 ⟨i, hi, by omega, rfl⟩
theorem pre_whole {t : Tr} (h : chk t = 0) {m : Nat} (hm : m ≤ t.2.1.length) : wholeP t (preC t m) := by
  have g := good_of h
  refine ⟨cut_mk h (by rw [preC_len]; have := g.procs; omega) fun p hp => ?_, (whole_iff h _).2 fun p hp y hy => ?_⟩
  · rw [preC_len] at hp
    rw [preC_at hp]
    obtain ⟨r, e⟩ := ofU_add t.2.1 (p : Int) (t.2.1.length - m) m
    rw [show m + (t.2.1.length - m) = t.2.1.length by omega] at e
    unfold ofT
    rw [e, List.length_append]
    omega
  · rw [preC_len] at hp
    rw [pre_take hm hp] at hy
    obtain ⟨j, h1, _, rfl⟩ := ofU_mem.1 hy
    rw [heard_iff]
    intro hf
    have hev := g.ev j (by omega)
    rw [pre_set h hm]
    rw [Int.toNat_natCast] at hf ⊢
    omega
theorem countW_ge {t : Tr} (h : chk t = 0) : t.2.1.length + 1 ≤ countW t := by
  have key := List.Nodup.length_le_of_subset (l₁ := (List.range (t.2.1.length + 1)).map (preC t)) (l₂ := wholeL t) ?_ fun x hx => ?_
  · rw [List.length_map, List.length_range] at key; exact key
  · rw [List.nodup_iff_pairwise_ne, List.pairwise_map]
    refine List.Pairwise.imp_of_mem ?_ (List.pairwise_lt_range (n := t.2.1.length + 1))
    intro a b ha hb hlt e
    have ha := List.mem_range.1 ha
    have hb := List.mem_range.1 hb
    have h1 := (pre_set h (m := b) (by omega) a).2 hlt
    rw [← e, pre_set h (by omega)] at h1
    omega
  · obtain ⟨m, hm, rfl⟩ := List.mem_map.1 hx
    have hm := List.mem_range.1 hm
    exact (whole_mem h _).2 (pre_whole h (by omega))
end Go.Proofs.YtbpoeigaoakdiaaDoor.H

/- What the functions of this seat have to satisfy, by program: each verification condition in plain words. -/
namespace Go.Proofs.YtbpoeigaoakdiaaDoor
open Go.Vc H
set_option linter.unusedVariables false
theorem vcLine (t : Tr) (c : List Int) (k : List Dat → Prop) : vcF ⟨Ez, [(52, cOfs), (31, cEvents), (59, cHas)], glT, [], []⟩ (anLine t c) (Tryd.f33.body.getD .skip) Tryd.f33.ntmps [(.tmp 4, .sl I), (.tmp 5, tErr)] [⟨tTr, t⟩, ⟨.sl I, c⟩] k = (
  True ∧ ((!decide (cutE t c = (0 : Int))) = true → k [Dat.mk (I).sl [], Dat.mk (Ty.err (71 : Nat)) (cutE t c)]) ∧ ((!decide (cutE t c = (0 : Int))) = false → c.length ≤ (1000000000 : Nat) ∧ (∃ (x : List Int), (lnP t c x ∧ cutE t c = (0 : Int)) ∧ (t = t ∧ c = c ∧ ([] : List Nat) = [] ∧ True ∧ (0 : Int) = (0 : Int) ∧ ((if cutE t c = (0 : Int) then rowsT t (Int.toNat t.fst) else []) = if cutE t c = (0 : Int) then rowsT t (Int.toNat t.fst) else []) ∧ True ∧ True) ∧ (((24 : Nat) = (24 : Nat) ∧ t = t) ∧ ((3 : Nat) = (3 : Nat) ∧ c = x) ∧ True) ∧ tabD = tabD ∧ True) ∧ ∀ (x : List Int), lnP t c x ∧ cutE t c = (0 : Int) → True ∧ ((!decide (cutE t x = (0 : Int))) = true → k [Dat.mk (I).sl [], Dat.mk (Ty.err (71 : Nat)) (cutE t x)]) ∧ ((!decide (cutE t x = (0 : Int))) = false → (∃ (x_1 : Nat × Bool × List Int), (x_1.fst ≤ c.length ∧ lnP t c x_1.snd.snd ∧ leC x_1.snd.snd x ∧ (x_1.snd.fst = false → x_1.snd.snd = x ∧ fineP t x x_1.fst) ∧ (x_1.snd.fst = true → sumC x_1.snd.snd < sumC x)) ∧ (t = t ∧ c = c ∧ ([] : List Nat) = [] ∧ True ∧ (0 : Int) = (0 : Int) ∧ ((if cutE t c = (0 : Int) then rowsT t (Int.toNat t.fst) else []) = if cutE t c = (0 : Int) then rowsT t (Int.toNat t.fst) else []) ∧ True ∧ setE t x = setE t x ∧ false = x_1.snd.fst ∧ (↑x.length : Int) = (↑x.length : Int) ∧ (0 : Int) = (↑x_1.fst : Int) ∧ True) ∧ (((24 : Nat) = (24 : Nat) ∧ t = t) ∧ ((3 : Nat) = (3 : Nat) ∧ x = x_1.snd.snd) ∧ True) ∧ tabD = tabD ∧ True) ∧ ∀ (x_1 : Nat × Bool × List Int), x_1.fst ≤ c.length ∧ lnP t c x_1.snd.snd ∧ leC x_1.snd.snd x ∧ (x_1.snd.fst = false → x_1.snd.snd = x ∧ fineP t x x_1.fst) ∧ (x_1.snd.fst = true → sumC x_1.snd.snd < sumC x) → (decide ((↑x_1.fst : Int) < (↑x.length : Int)) = true → ((0 : Int) ≤ (↑x_1.fst : Int) ∧ (↑x_1.fst : Int) < (↑(if cutE t c = (0 : Int) then rowsT t (Int.toNat t.fst) else []).length : Int) ∧ (0 : Int) ≤ (↑x_1.fst : Int) ∧ (↑x_1.fst : Int) < (↑x_1.snd.snd.length : Int) ∧ (0 : Int) ≤ (0 : Int) ∧ (0 : Int) ≤ x_1.snd.snd.getD (↑x_1.fst : Int).toNat (0 : Int) ∧ x_1.snd.snd.getD (↑x_1.fst : Int).toNat (0 : Int) ≤ (↑((if cutE t c = (0 : Int) then rowsT t (Int.toNat t.fst) else []).getD (↑x_1.fst : Int).toNat []).length : Int) ∧ True) ∧ (∃ (x_2 : Nat), (x_2 ≤ (takeC t x_1.snd.snd (↑x_1.fst : Int).toNat).length ∧ ∀ (y : Int), y ∈ List.take x_2 (takeC t x_1.snd.snd (↑x_1.fst : Int).toNat) → heard t.snd.fst (setE t x).toNat y = true) ∧ (t = t ∧ c = c ∧ ([] : List Nat) = [] ∧ True ∧ (0 : Int) = (0 : Int) ∧ ((if cutE t c = (0 : Int) then rowsT t (Int.toNat t.fst) else []) = if cutE t c = (0 : Int) then rowsT t (Int.toNat t.fst) else []) ∧ True ∧ setE t x = setE t x ∧ x_1.snd.fst = x_1.snd.fst ∧ (↑x_1.fst : Int) = (↑x_1.fst : Int) ∧ (↑x.length : Int) = (↑x.length : Int) ∧ (↑x_1.fst : Int) = (↑x_1.fst : Int) ∧ List.drop (Int.toNat (0 : Int)) (List.take (x_1.snd.snd.getD (↑x_1.fst : Int).toNat (0 : Int)).toNat ((if cutE t c = (0 : Int) then rowsT t (Int.toNat t.fst) else []).getD (↑x_1.fst : Int).toNat [])) = List.drop (Int.toNat (0 : Int)) (List.take (x_1.snd.snd.getD (↑x_1.fst : Int).toNat (0 : Int)).toNat ((if cutE t c = (0 : Int) then rowsT t (Int.toNat t.fst) else []).getD (↑x_1.fst : Int).toNat [])) ∧ (↑(List.drop (Int.toNat (0 : Int)) (List.take (x_1.snd.snd.getD (↑x_1.fst : Int).toNat (0 : Int)).toNat ((if cutE t c = (0 : Int) then rowsT t (Int.toNat t.fst) else []).getD (↑x_1.fst : Int).toNat []))).length : Int) = (↑(List.drop (Int.toNat (0 : Int)) (List.take (x_1.snd.snd.getD (↑x_1.fst : Int).toNat (0 : Int)).toNat ((if cutE t c = (0 : Int) then rowsT t (Int.toNat t.fst) else []).getD (↑x_1.fst : Int).toNat []))).length : Int) ∧ (0 : Int) = (↑x_2 : Int) ∧ True) ∧ (((24 : Nat) = (24 : Nat) ∧ t = t) ∧ ((3 : Nat) = (3 : Nat) ∧ x_1.snd.snd = x_1.snd.snd) ∧ True) ∧ tabD = tabD ∧ True) ∧ ∀ (x_2 : Nat), (x_2 ≤ (takeC t x_1.snd.snd (↑x_1.fst : Int).toNat).length ∧ ∀ (y : Int), y ∈ List.take x_2 (takeC t x_1.snd.snd (↑x_1.fst : Int).toNat) → heard t.snd.fst (setE t x).toNat y = true) → (decide ((↑x_2 : Int) < (↑(List.drop (Int.toNat (0 : Int)) (List.take (x_1.snd.snd.getD (↑x_1.fst : Int).toNat (0 : Int)).toNat ((if cutE t c = (0 : Int) then rowsT t (Int.toNat t.fst) else []).getD (↑x_1.fst : Int).toNat []))).length : Int)) = true → (0 : Int) ≤ (↑x_2 : Int) ∧ (↑x_2 : Int) < (↑(List.drop (Int.toNat (0 : Int)) (List.take (x_1.snd.snd.getD (↑x_1.fst : Int).toNat (0 : Int)).toNat ((if cutE t c = (0 : Int) then rowsT t (Int.toNat t.fst) else []).getD (↑x_1.fst : Int).toNat []))).length : Int) ∧ (0 : Int) ≤ (List.drop (Int.toNat (0 : Int)) (List.take (x_1.snd.snd.getD (↑x_1.fst : Int).toNat (0 : Int)).toNat ((if cutE t c = (0 : Int) then rowsT t (Int.toNat t.fst) else []).getD (↑x_1.fst : Int).toNat []))).getD (↑x_2 : Int).toNat (0 : Int) ∧ (List.drop (Int.toNat (0 : Int)) (List.take (x_1.snd.snd.getD (↑x_1.fst : Int).toNat (0 : Int)).toNat ((if cutE t c = (0 : Int) then rowsT t (Int.toNat t.fst) else []).getD (↑x_1.fst : Int).toNat []))).getD (↑x_2 : Int).toNat (0 : Int) < (↑(List.length t.snd.fst) : Int) ∧ (decide ((0 : Int) ≤ (List.getD t.snd.fst ((List.drop (Int.toNat (0 : Int)) (List.take (x_1.snd.snd.getD (↑x_1.fst : Int).toNat (0 : Int)).toNat ((if cutE t c = (0 : Int) then rowsT t (Int.toNat t.fst) else []).getD (↑x_1.fst : Int).toNat []))).getD (↑x_2 : Int).toNat (0 : Int)).toNat ((0 : Int), (0 : Int), ())).snd.fst) = true → (((0 : Int) ≤ setE t x ∧ (0 : Int) ≤ (List.getD t.snd.fst ((List.drop (Int.toNat (0 : Int)) (List.take (x_1.snd.snd.getD (↑x_1.fst : Int).toNat (0 : Int)).toNat ((if cutE t c = (0 : Int) then rowsT t (Int.toNat t.fst) else []).getD (↑x_1.fst : Int).toNat []))).getD (↑x_2 : Int).toNat (0 : Int)).toNat ((0 : Int), (0 : Int), ())).snd.fst ∧ (List.getD t.snd.fst ((List.drop (Int.toNat (0 : Int)) (List.take (x_1.snd.snd.getD (↑x_1.fst : Int).toNat (0 : Int)).toNat ((if cutE t c = (0 : Int) then rowsT t (Int.toNat t.fst) else []).getD (↑x_1.fst : Int).toNat []))).getD (↑x_2 : Int).toNat (0 : Int)).toNat ((0 : Int), (0 : Int), ())).snd.fst < (64 : Int)) ∧ True) ∧ ((!(setE t x).toNat.testBit (Int.toNat (List.getD t.snd.fst ((List.drop (Int.toNat (0 : Int)) (List.take (x_1.snd.snd.getD (↑x_1.fst : Int).toNat (0 : Int)).toNat ((if cutE t c = (0 : Int) then rowsT t (Int.toNat t.fst) else []).getD (↑x_1.fst : Int).toNat []))).getD (↑x_2 : Int).toNat (0 : Int)).toNat ((0 : Int), (0 : Int), ())).snd.fst)) = true → (0 : Int) ≤ (↑x_1.fst : Int) ∧ (↑x_1.fst : Int) < (↑x_1.snd.snd.length : Int) ∧ inK IntKind.i64 ((↑x_1.fst : Int) + (1 : Int)) ∧ ∃ (x_3 : Nat × Bool × List Int), (x_3.fst ≤ c.length ∧ lnP t c x_3.snd.snd ∧ leC x_3.snd.snd x ∧ (x_3.snd.fst = false → x_3.snd.snd = x ∧ fineP t x x_3.fst) ∧ (x_3.snd.fst = true → sumC x_3.snd.snd < sumC x)) ∧ c.length - x_3.fst < c.length - x_1.fst ∧ (t = t ∧ c = c ∧ ([] : List Nat) = [] ∧ True ∧ (0 : Int) = (0 : Int) ∧ ((if cutE t c = (0 : Int) then rowsT t (Int.toNat t.fst) else []) = if cutE t c = (0 : Int) then rowsT t (Int.toNat t.fst) else []) ∧ True ∧ setE t x = setE t x ∧ true = x_3.snd.fst ∧ (↑x.length : Int) = (↑x.length : Int) ∧ (↑x_1.fst : Int) + (1 : Int) = (↑x_3.fst : Int) ∧ True) ∧ (((24 : Nat) = (24 : Nat) ∧ t = t) ∧ ((3 : Nat) = (3 : Nat) ∧ x_1.snd.snd.set (↑x_1.fst : Int).toNat (↑x_2 : Int) = x_3.snd.snd) ∧ True) ∧ tabD = tabD ∧ True) ∧ ((!(setE t x).toNat.testBit (Int.toNat (List.getD t.snd.fst ((List.drop (Int.toNat (0 : Int)) (List.take (x_1.snd.snd.getD (↑x_1.fst : Int).toNat (0 : Int)).toNat ((if cutE t c = (0 : Int) then rowsT t (Int.toNat t.fst) else []).getD (↑x_1.fst : Int).toNat []))).getD (↑x_2 : Int).toNat (0 : Int)).toNat ((0 : Int), (0 : Int), ())).snd.fst)) = false → inK IntKind.i64 ((↑x_2 : Int) + (1 : Int)) ∧ ∃ (x_3 : Nat), (x_3 ≤ (takeC t x_1.snd.snd (↑x_1.fst : Int).toNat).length ∧ ∀ (y : Int), y ∈ List.take x_3 (takeC t x_1.snd.snd (↑x_1.fst : Int).toNat) → heard t.snd.fst (setE t x).toNat y = true) ∧ c.length + t.snd.fst.length - x_3 < c.length + t.snd.fst.length - x_2 ∧ (t = t ∧ c = c ∧ ([] : List Nat) = [] ∧ True ∧ (0 : Int) = (0 : Int) ∧ ((if cutE t c = (0 : Int) then rowsT t (Int.toNat t.fst) else []) = if cutE t c = (0 : Int) then rowsT t (Int.toNat t.fst) else []) ∧ True ∧ setE t x = setE t x ∧ x_1.snd.fst = x_1.snd.fst ∧ (↑x_1.fst : Int) = (↑x_1.fst : Int) ∧ (↑x.length : Int) = (↑x.length : Int) ∧ (↑x_1.fst : Int) = (↑x_1.fst : Int) ∧ List.drop (Int.toNat (0 : Int)) (List.take (x_1.snd.snd.getD (↑x_1.fst : Int).toNat (0 : Int)).toNat ((if cutE t c = (0 : Int) then rowsT t (Int.toNat t.fst) else []).getD (↑x_1.fst : Int).toNat [])) = List.drop (Int.toNat (0 : Int)) (List.take (x_1.snd.snd.getD (↑x_1.fst : Int).toNat (0 : Int)).toNat ((if cutE t c = (0 : Int) then rowsT t (Int.toNat t.fst) else []).getD (↑x_1.fst : Int).toNat [])) ∧ (↑(List.drop (Int.toNat (0 : Int)) (List.take (x_1.snd.snd.getD (↑x_1.fst : Int).toNat (0 : Int)).toNat ((if cutE t c = (0 : Int) then rowsT t (Int.toNat t.fst) else []).getD (↑x_1.fst : Int).toNat []))).length : Int) = (↑(List.drop (Int.toNat (0 : Int)) (List.take (x_1.snd.snd.getD (↑x_1.fst : Int).toNat (0 : Int)).toNat ((if cutE t c = (0 : Int) then rowsT t (Int.toNat t.fst) else []).getD (↑x_1.fst : Int).toNat []))).length : Int) ∧ (↑x_2 : Int) + (1 : Int) = (↑x_3 : Int) ∧ True) ∧ (((24 : Nat) = (24 : Nat) ∧ t = t) ∧ ((3 : Nat) = (3 : Nat) ∧ x_1.snd.snd = x_1.snd.snd) ∧ True) ∧ tabD = tabD ∧ True)) ∧ (decide ((0 : Int) ≤ (List.getD t.snd.fst ((List.drop (Int.toNat (0 : Int)) (List.take (x_1.snd.snd.getD (↑x_1.fst : Int).toNat (0 : Int)).toNat ((if cutE t c = (0 : Int) then rowsT t (Int.toNat t.fst) else []).getD (↑x_1.fst : Int).toNat []))).getD (↑x_2 : Int).toNat (0 : Int)).toNat ((0 : Int), (0 : Int), ())).snd.fst) = false → inK IntKind.i64 ((↑x_2 : Int) + (1 : Int)) ∧ ∃ (x_3 : Nat), (x_3 ≤ (takeC t x_1.snd.snd (↑x_1.fst : Int).toNat).length ∧ ∀ (y : Int), y ∈ List.take x_3 (takeC t x_1.snd.snd (↑x_1.fst : Int).toNat) → heard t.snd.fst (setE t x).toNat y = true) ∧ c.length + t.snd.fst.length - x_3 < c.length + t.snd.fst.length - x_2 ∧ (t = t ∧ c = c ∧ ([] : List Nat) = [] ∧ True ∧ (0 : Int) = (0 : Int) ∧ ((if cutE t c = (0 : Int) then rowsT t (Int.toNat t.fst) else []) = if cutE t c = (0 : Int) then rowsT t (Int.toNat t.fst) else []) ∧ True ∧ setE t x = setE t x ∧ x_1.snd.fst = x_1.snd.fst ∧ (↑x_1.fst : Int) = (↑x_1.fst : Int) ∧ (↑x.length : Int) = (↑x.length : Int) ∧ (↑x_1.fst : Int) = (↑x_1.fst : Int) ∧ List.drop (Int.toNat (0 : Int)) (List.take (x_1.snd.snd.getD (↑x_1.fst : Int).toNat (0 : Int)).toNat ((if cutE t c = (0 : Int) then rowsT t (Int.toNat t.fst) else []).getD (↑x_1.fst : Int).toNat [])) = List.drop (Int.toNat (0 : Int)) (List.take (x_1.snd.snd.getD (↑x_1.fst : Int).toNat (0 : Int)).toNat ((if cutE t c = (0 : Int) then rowsT t (Int.toNat t.fst) else []).getD (↑x_1.fst : Int).toNat [])) ∧ (↑(List.drop (Int.toNat (0 : Int)) (List.take (x_1.snd.snd.getD (↑x_1.fst : Int).toNat (0 : Int)).toNat ((if cutE t c = (0 : Int) then rowsT t (Int.toNat t.fst) else []).getD (↑x_1.fst : Int).toNat []))).length : Int) = (↑(List.drop (Int.toNat (0 : Int)) (List.take (x_1.snd.snd.getD (↑x_1.fst : Int).toNat (0 : Int)).toNat ((if cutE t c = (0 : Int) then rowsT t (Int.toNat t.fst) else []).getD (↑x_1.fst : Int).toNat []))).length : Int) ∧ (↑x_2 : Int) + (1 : Int) = (↑x_3 : Int) ∧ True) ∧ (((24 : Nat) = (24 : Nat) ∧ t = t) ∧ ((3 : Nat) = (3 : Nat) ∧ x_1.snd.snd = x_1.snd.snd) ∧ True) ∧ tabD = tabD ∧ True)) ∧ (decide ((↑x_2 : Int) < (↑(List.drop (Int.toNat (0 : Int)) (List.take (x_1.snd.snd.getD (↑x_1.fst : Int).toNat (0 : Int)).toNat ((if cutE t c = (0 : Int) then rowsT t (Int.toNat t.fst) else []).getD (↑x_1.fst : Int).toNat []))).length : Int)) = false → inK IntKind.i64 ((↑x_1.fst : Int) + (1 : Int)) ∧ ∃ (x_3 : Nat × Bool × List Int), (x_3.fst ≤ c.length ∧ lnP t c x_3.snd.snd ∧ leC x_3.snd.snd x ∧ (x_3.snd.fst = false → x_3.snd.snd = x ∧ fineP t x x_3.fst) ∧ (x_3.snd.fst = true → sumC x_3.snd.snd < sumC x)) ∧ c.length - x_3.fst < c.length - x_1.fst ∧ (t = t ∧ c = c ∧ ([] : List Nat) = [] ∧ True ∧ (0 : Int) = (0 : Int) ∧ ((if cutE t c = (0 : Int) then rowsT t (Int.toNat t.fst) else []) = if cutE t c = (0 : Int) then rowsT t (Int.toNat t.fst) else []) ∧ True ∧ setE t x = setE t x ∧ x_1.snd.fst = x_3.snd.fst ∧ (↑x.length : Int) = (↑x.length : Int) ∧ (↑x_1.fst : Int) + (1 : Int) = (↑x_3.fst : Int) ∧ True) ∧ (((24 : Nat) = (24 : Nat) ∧ t = t) ∧ ((3 : Nat) = (3 : Nat) ∧ x_1.snd.snd = x_3.snd.snd) ∧ True) ∧ tabD = tabD ∧ True)) ∧ (decide ((↑x_1.fst : Int) < (↑x.length : Int)) = false → ((!x_1.snd.fst) = true → k [Dat.mk (I).sl x_1.snd.snd, Dat.mk (Ty.err (71 : Nat)) (0 : Int)]) ∧ ((!x_1.snd.fst) = false → ∃ (x_2 : List Int), (lnP t c x_2 ∧ cutE t c = (0 : Int)) ∧ sumC x_2 < sumC x ∧ (t = t ∧ c = c ∧ ([] : List Nat) = [] ∧ True ∧ (0 : Int) = (0 : Int) ∧ ((if cutE t c = (0 : Int) then rowsT t (Int.toNat t.fst) else []) = if cutE t c = (0 : Int) then rowsT t (Int.toNat t.fst) else []) ∧ True ∧ True) ∧ (((24 : Nat) = (24 : Nat) ∧ t = t) ∧ ((3 : Nat) = (3 : Nat) ∧ x_1.snd.snd = x_2) ∧ True) ∧ tabD = tabD ∧ True))))) := by kernel_rfl
theorem vcFact (k : List Dat → Prop) : vcF ⟨Ez, [(51, cTalk), (32, cIs)], glT, [], []⟩ [] (Tryd.f24.body.getD .skip) Tryd.f24.ntmps [(.tmp 0, .bool)] [] k = (
  True ∧ True ∧ True ∧ True ∧ (decide (cutE talkT (((List.replicate (2 : Nat) (0 : Int)).set (0 : Nat) (0 : Int)).set (1 : Nat) (1 : Int)) = (0 : Int)) = true → (decide (cutE talkT (((List.replicate (2 : Nat) (0 : Int)).set (0 : Nat) (1 : Int)).set (1 : Nat) (1 : Int)) = (0 : Int)) = true → ((!if cutE talkT (((List.replicate (2 : Nat) (0 : Int)).set (0 : Nat) (0 : Int)).set (1 : Nat) (1 : Int)) = (0 : Int) then wholeB talkT (((List.replicate (2 : Nat) (0 : Int)).set (0 : Nat) (0 : Int)).set (1 : Nat) (1 : Int)) else false) = true → k [Dat.mk Ty.bool (if cutE talkT (((List.replicate (2 : Nat) (0 : Int)).set (0 : Nat) (1 : Int)).set (1 : Nat) (1 : Int)) = (0 : Int) then wholeB talkT (((List.replicate (2 : Nat) (0 : Int)).set (0 : Nat) (1 : Int)).set (1 : Nat) (1 : Int)) else false)]) ∧ ((!if cutE talkT (((List.replicate (2 : Nat) (0 : Int)).set (0 : Nat) (0 : Int)).set (1 : Nat) (1 : Int)) = (0 : Int) then wholeB talkT (((List.replicate (2 : Nat) (0 : Int)).set (0 : Nat) (0 : Int)).set (1 : Nat) (1 : Int)) else false) = false → k [Dat.mk Ty.bool false])) ∧ (decide (cutE talkT (((List.replicate (2 : Nat) (0 : Int)).set (0 : Nat) (1 : Int)).set (1 : Nat) (1 : Int)) = (0 : Int)) = false → k [Dat.mk Ty.bool false])) ∧ (decide (cutE talkT (((List.replicate (2 : Nat) (0 : Int)).set (0 : Nat) (0 : Int)).set (1 : Nat) (1 : Int)) = (0 : Int)) = false → k [Dat.mk Ty.bool false])) := by kernel_rfl
end Go.Proofs.YtbpoeigaoakdiaaDoor

/- Cuts: the line. -/
namespace Go.Proofs.YtbpoeigaoakdiaaDoor.H
open Go.Vc

theorem line_vc (t : Tr) (c : List Int) (k : List Dat → Prop) (hk1 : cutE t c = 0 → ∀ l : List Int, lineP t c l → k [⟨.sl I, l⟩, ⟨tErr, (0 : Int)⟩]) (hk2 : cutE t c ≠ 0 → k [⟨.sl I, ([] : List Int)⟩, ⟨tErr, cutE t c⟩]) :
    vcF ⟨Ez, [(52, cOfs), (31, cEvents), (59, cHas)], glT, [], []⟩ (anLine t c) (Tryd.f33.body.getD .skip) Tryd.f33.ntmps [(.tmp 4, .sl I), (.tmp 5, tErr)] [⟨tTr, t⟩, ⟨.sl I, c⟩] k := by
  rw [vcLine]
  simp only [decide_eq_true_eq, decide_eq_false_iff_not, and_true, true_and, Bool.not_eq_true', Bool.not_eq_false', Int.toNat_natCast]
  refine ⟨hk2, fun h => ?_⟩
  obtain ⟨h1, h2, h3⟩ := cut_ok h
  have g := good_of h1
  have hl := g.len
  have hpr := g.procs
  have hif : (if cutE t c = 0 then rowsT t t.1.toNat else []) = rowsT t t.1.toNat := if_pos h
  have hk1 := hk1 h
  simp only [hif, rowsT_len]
  simp only [h, and_true]
  have ln0 : lnP t c c := ⟨h, ⟨rfl, fun _ _ => Int.le_refl _⟩, fun d _ hd => hd⟩
  refine ⟨by omega, ⟨c, ln0, rfl⟩, fun x hx => ⟨fun hne => absurd hx.1 hne, fun hxe => ?_⟩⟩
  obtain ⟨k1, k2, k3⟩ := cut_ok hx.1
  have hS : (setE t x).toNat = setN t x := by unfold setE; rw [if_pos hx.1]; exact Int.toNat_natCast _
  have hS0 : 0 ≤ setE t x := by unfold setE; rw [if_pos hx.1]; exact Int.natCast_nonneg _
  rw [hS]
  refine ⟨⟨(0, false, x), ⟨by omega, hx, ⟨rfl, fun _ _ => Int.le_refl _⟩, fun _ => ⟨rfl, fun p hp => by omega⟩, (fun h => by cases h)⟩, ⟨rfl, rfl⟩, rfl⟩, fun y ⟨y1, y2, y3, y4, y5⟩ => ⟨fun hlt => ?_, fun hge => ?_⟩⟩
  · obtain ⟨p, ag, l⟩ := y
    simp only at *
    obtain ⟨m1, m2, m3⟩ := cut_ok y2.1
    have hpl : p < l.length := by have := y3.1; omega
    have hpt : p < t.1.toNat := by omega
    have hlp := m3 p hpl
    have htk : List.drop (Int.toNat (0 : Int)) (List.take (l.getD p 0).toNat (ofT t (p : Int))) = takeC t l p := rfl
    simp only [rowsT_getD t hpt, htk]
    refine ⟨⟨by omega, by omega, by omega, by omega, by omega, hlp.1, hlp.2⟩, ⟨0, ⟨by omega, fun z hz => by simp at hz⟩, rfl⟩, fun n ⟨n1, n2⟩ => ⟨fun hnlt => ?_, fun hnge => ⟨inK_i64.2 (by omega), ?_⟩⟩⟩
    · have hnl : n < (takeC t l p).length := by omega
      have hlen : (takeC t l p).length ≤ t.2.1.length := by
        have h1 := (takeC_len t l p).2
        have h2 := ofU_len t.2.1 (p : Int) t.2.1.length
        unfold ofT at h1
        omega
      have hm : (takeC t l p).getD n 0 ∈ takeC t l p := by rw [getD_at hnl]; exact List.getElem_mem hnl
      have hmm := takeC_mem hm
      have hev := g.ev ((takeC t l p).getD n 0).toNat (by omega)
      have hext : heard t.2.1 (setN t x) ((takeC t l p).getD n 0) = true → ∀ z ∈ (takeC t l p).take (n + 1), heard t.2.1 (setN t x) z = true := by
        intro hh z hz
        rw [take_snoc hnl] at hz
        rcases List.mem_append.1 hz with hz | hz
        · exact n2 z hz
        · rw [List.mem_singleton.1 hz]; exact hh
      refine ⟨by omega, by omega, hmm.1, hmm.2.1, fun h0 => ⟨⟨hS0, h0, by omega⟩, fun hb => ⟨by omega, by omega, inK_i64.2 (by omega), (p + 1, true, l.set p (n : Int)), ⟨by simp only; omega, ?_, ?_, (fun h => by cases h), fun _ => ?_⟩, by simp only; omega, ⟨rfl, by simp only; omega⟩, rfl⟩, fun hb => ⟨inK_i64.2 (by omega), n + 1, ⟨by omega, hext ?_⟩, by omega, by omega⟩⟩, fun h0 => ⟨inK_i64.2 (by omega), n + 1, ⟨by omega, hext ?_⟩, by omega, by omega⟩⟩
      · refine line_step y2 y3 hpl hnl ?_
        cases hh : heard t.2.1 (setN t x) ((takeC t l p).getD n 0) with
        | false => rfl
        | true =>
          have := heard_iff.1 hh h0
          rw [hb] at this; cases this
      · have htl := (takeC_len t l p).1
        refine ⟨by rw [List.length_set]; exact y3.1, fun q hq => ?_⟩
        rw [List.length_set] at hq
        rw [getD_set_eq hpl]
        have := y3.2 q hq
        split
        · rename_i e; subst e; omega
        · exact this
      · have htl := (takeC_len t l p).1
        have h1 := sum_set l p (n : Int) hpl (by omega)
        show sumC (l.set p (n : Int)) < sumC x
        cases ag with
        | true => have := y5 rfl; omega
        | false =>
          have e : l = x := (y4 rfl).1
          rw [← e]; exact h1
      · exact heard_iff.2 fun _ => hb
      · exact heard_iff.2 fun h => absurd h h0
    · refine ⟨(p + 1, ag, l), ⟨by simp only; omega, y2, y3, fun ha => ⟨(y4 ha).1, fun q hq z hz => ?_⟩, y5⟩, by simp only; omega, ⟨rfl, by simp only; omega⟩, rfl⟩
      rcases Nat.lt_or_ge q p with hqp | hqp
      · exact (y4 ha).2 q hqp z hz
      · have hqe : q = p := by omega
        subst hqe
        have hnl : n = (takeC t l q).length := by omega
        rw [hnl, List.take_length] at n2
        rw [← (y4 ha).1] at hz
        exact n2 z hz
  · obtain ⟨p, ag, l⟩ := y
    simp only at *
    refine ⟨fun ha => ?_, fun ha => ⟨l, y2, y5 ha, rfl⟩⟩
    obtain ⟨e, hf⟩ := y4 ha
    subst e
    exact hk1 l ⟨hx, (whole_iff h1 l).2 fun q hq => hf q (by omega)⟩

theorem okLine : PlainOk Tryd.prog glT 33 cLine := by
  refine plain_of (CxOk.mk' Ez_ok rfl mixed (gl := glT) (GOk.cons okOfs Tryd.func52 (by kernel_rfl) (by kernel_rfl) (GOk.cons okEvents Tryd.func31 (by kernel_rfl) (by kernel_rfl) (GOk.cons okHas Tryd.func59 (by kernel_rfl) (by kernel_rfl) GOk.nil))) GoOk.nil noIt) Tryd.func33 (c := Tryd.f33.body.getD .skip) (rvs := [(.tmp 4, .sl I), (.tmp 5, tErr)]) (by kernel_rfl) (by kernel_rfl) (by kernel_rfl) ?_
  intro ds k hs hwf
  obtain ⟨t, c, rfl, h⟩ := gdest2 hs
  refine ⟨anLine t c, line_vc t c k (fun h0 l hl => ?_) fun h0 => h [] (fun e => absurd e h0) fun _ => rfl⟩
  have := h l (fun _ => hl) fun e => absurd h0 e
  rw [h0] at this; exact this

theorem okFact : PlainOk Tryd.prog glT 24 cFact := by
  refine plain_of (CxOk.mk' Ez_ok rfl mixed (gl := glT) (GOk.cons (lift okTalk) Tryd.func51 (by kernel_rfl) (by kernel_rfl) (GOk.cons okIs Tryd.func32 (by kernel_rfl) (by kernel_rfl) GOk.nil)) GoOk.nil noIt) Tryd.func24 (c := Tryd.f24.body.getD .skip) (rvs := [(.tmp 0, .bool)]) (by kernel_rfl) (by kernel_rfl) (by kernel_rfl) ?_
  intro ds k ⟨hp, hk⟩ hwf
  obtain ⟨rfl, -⟩ := dest0 hp
  have hk : k [⟨.bool, true⟩] := hk
  refine ⟨[], ?_⟩
  rw [vcFact]
  have e1 : cutE talkT [0, 1] = 0 := by decide +kernel
  have e2 : cutE talkT [1, 1] = 0 := by decide +kernel
  have w1 : wholeB talkT [0, 1] = false := by decide +kernel
  have w2 : wholeB talkT [1, 1] = true := by decide +kernel
  have l1 : ((List.replicate 2 (0 : Int)).set 0 0).set 1 1 = [0, 1] := rfl
  have l2 : ((List.replicate 2 (0 : Int)).set 0 1).set 1 1 = [1, 1] := rfl
  simp only [l1, l2, e1, e2, w1, w2, if_true]
  exact ⟨trivial, trivial, trivial, trivial, fun _ => ⟨fun _ => ⟨fun _ => hk, fun h => by cases h⟩, fun h => by cases h⟩, fun h => by cases h⟩
end Go.Proofs.YtbpoeigaoakdiaaDoor.H

/- The queue of things that are found; how many whole cuts there are: what the functions answer. -/
namespace Go.Proofs.YtbpoeigaoakdiaaDoor.H
open Go.Vc
abbrev tK : Ty := .ar 5 I
abbrev LL := List (List Int)
def Eq : Env := { tys := [(3, I), (4, .bool), (5, .int .u8), (22, .sl tEv), (24, tTr), (28, tErr), (30, .sl I), (70, tEv), (74, tK), (61, .sl (.sl I)), (88, .nm), (89, .sl tK), (91, .pr .nm (.pr (.sl tK) .un))], errT := 71, eqs := [], els := [(22, 70), (30, 3), (61, 30), (89, 74)], mps := [(88, (74, 3))], pz := [7], sa := [22] }
theorem Eq_ok : EnvOk Tryd.prog Eq := EnvOk.of_list (by kernel_rfl) (by kernel_rfl) (by kernel_rfl)
/-- where what was found stands -/
def mpE (L : LL) (n : Nat) : List (List Int × Int) := match L with
  | [] => []
  | x :: r => (x, (n : Int)) :: mpE r (n + 1)
def addL (L : LL) (c : List Int) : LL := if L.contains c = true then L else L ++ [c]
def ans2 (n : Int) (b : Bool) : SV := .tp [.d (.int .i64) n, .d .bool b]
def qOb (L : LL) : List Ob := [.st 91 [.os 1, .os 2], .mp 5 I (mpE L 0), .row 74 tK L]
def q0 : List Ob := [.st 91 [.d .nm Ty.nm.z, .nils]]
def oAdd : OCtr := fun args ob k =>
  match args, ob with
  | [.ps 0, .d (.ar 5 (.int .i64)) c], [.st 91 [.os 1, .os 2], .mp 5 (.int .i64) es, .row 74 (.ar 5 (.int .i64)) L] => es = mpE L 0 ∧ (L : LL).length < 1000000000 ∧ ∀ (n : Int) (b : Bool), k (ans2 n b) (qOb (addL L c))
  | [.ps 0, .d (.ar 5 (.int .i64)) c], [.st 91 [.d .nm _, .nils]] => ∀ (n : Int) (b : Bool), k (ans2 n b) (qOb [c])
  | _, _ => False
def oLen : OCtr := fun args ob k =>
  match args, ob with
  | [.ps 0], [.st 91 [.os 1, .os 2], .mp 5 (.int .i64) es, .row 74 (.ar 5 (.int .i64)) L] => es = mpE L 0 ∧ k (.d (.int .i64) ((L : LL).length : Int)) (qOb L)
  | _, _ => False
def oAt : OCtr := fun args ob k =>
  match args, ob with
  | [.ps 0, .d (.int .i64) i], [.st 91 [.os 1, .os 2], .mp 5 (.int .i64) es, .row 74 (.ar 5 (.int .i64)) L] => es = mpE L 0 ∧ (0 : Int) ≤ i ∧ (i : Int) < ((L : LL).length : Int) ∧ k (.d (.ar 5 (.int .i64)) ((L : LL).getD (i : Int).toNat (List.replicate 5 0))) (qOb L)
  | _, _ => False
/-- what was found so far -/
structure foundP (t : Tr) (L : LL) : Prop where
  nd : L.Nodup
  five : ∀ y ∈ L, fiveP t y
  zero : List.replicate 5 (0 : Int) ∈ L
def stepOk (t : Tr) (L : LL) (y : List Int) (p : Nat) : Prop :=
  y.getD p 0 + 1 ≤ (lenT t p : Int) → wholeB t ((y.set p (y.getD p 0 + 1)).take t.1.toNat) = true → y.set p (y.getD p 0 + 1) ∈ L
def closedTo (t : Tr) (L : LL) (n : Nat) : Prop := ∀ i, i < n → ∀ p, p < t.1.toNat → stepOk t L (L.getD i []) p
def closedAt (t : Tr) (L : LL) (i n : Nat) : Prop := ∀ p, p < n → stepOk t L (L.getD i []) p
def cCount : Ctr := cdet [tTr] (fun _ => True) (fun t => [⟨I, if chk t = 0 then (countW t : Int) else 0⟩, ⟨tErr, chk t⟩])
def cOb (t : Tr) (L : LL) : List Ob := [.var 24 tTr t, .st 91 [.os 2, .os 3], .mp 5 I (mpE L 0), .row 74 tK L]
def anCount (t : Tr) : Ann := [joinAll, freezeAt 18 [10],
  loopAt 10 (Nat × LL) [] (fun st g => { St.at (St.only st [1, 5]) [(7, .ps 1), (8, .d I (g.1 : Int))] with ob := cOb t g.2 }) (fun _ g => (chk t = 0 ∧ g.1 ≤ g.2.length) ∧ foundP t g.2 ∧ closedTo t g.2 g.1) (fun g => countW t + 1 - g.1),
  loopAt 13 (Nat × LL) [] (fun st g => { St.at (St.only st [1, 5, 8, 37]) [(7, .ps 1), (38, .d I (g.1 : Int))] with ob := cOb t g.2 }) (fun st g => (g.1 ≤ t.1.toNat ∧ (st.i 8).toNat < g.2.length) ∧ foundP t g.2 ∧ closedTo t g.2 (st.i 8).toNat ∧ closedAt t g.2 (st.i 8).toNat g.1) (fun g => t.1.toNat - g.1)]
end Go.Proofs.YtbpoeigaoakdiaaDoor.H

/- Clocks that count: what the functions answer. -/
namespace Go.Proofs.YtbpoeigaoakdiaaDoor
open Go.Vc
def Ev5 : Env := { tys := [(3, I), (4, .bool), (5, .int .u8), (9, .str), (22, .sl tEv), (24, tTr), (30, .sl I), (28, tErr), (70, tEv), (61, .sl (.sl I)), (74, .ar 5 I), (100, .ar 5 (.ar 5 I)), (89, .sl (.ar 5 I))], errT := 71, eqs := [], els := [(22, 70), (30, 3), (61, 30), (89, 74)] }
theorem Ev5_ok : EnvOk Tryd.prog Ev5 := EnvOk.of_list (by kernel_rfl) (by kernel_rfl) (by kernel_rfl)
def cClone : Ctr := cdet [.sl I] (fun (l : List Int) => l.length ≤ 1000000000 ∧ True) (fun (l : List Int) => [⟨.sl I, l⟩])
/-- the plain clocks -/
def plst (l : List Ev) : Nat → List Int × List Int
  | 0 => ([], List.replicate 5 0)
  | i + 1 =>
    ((plst l i).1 ++ [(if 0 ≤ (l.getD i (0, 0, ())).2.1 then max ((plst l i).2.getD (l.getD i (0, 0, ())).1.toNat 0) ((plst l i).1.getD (l.getD i (0, 0, ())).2.1.toNat 0) else (plst l i).2.getD (l.getD i (0, 0, ())).1.toNat 0) + 1],
     (plst l i).2.set (l.getD i (0, 0, ())).1.toNat ((if 0 ≤ (l.getD i (0, 0, ())).2.1 then max ((plst l i).2.getD (l.getD i (0, 0, ())).1.toNat 0) ((plst l i).1.getD (l.getD i (0, 0, ())).2.1.toNat 0) else (plst l i).2.getD (l.getD i (0, 0, ())).1.toNat 0) + 1))
def plain (t : Tr) : List Int := if chk t = 0 then (plst t.2.1 t.2.1.length).1 else []
def cPlain : Ctr := cdet [tTr] (fun _ => True) (fun t => [⟨.sl I, plain t⟩, ⟨tErr, chk t⟩])
def anPlain (t : Tr) : Ann :=
  [loopAt 7 Nat [(6, 3, I)] (fun st i => { St.at st [(18, .d I (i : Int)), (8, .any), (9, .any)] with ob := (st.ob.set 1 (.var 74 (.ar 5 I) (plst t.2.1 i).2)).set 2 (.row 3 I (plst t.2.1 i).1) }) (fun _ i => i ≤ t.2.1.length ∧ True) (fun i => t.2.1.length - i)]
/-- the vectors: one that is joined with another one, from place p on; one event more at a process -/
def vjoin (v w : List Int) (p : Nat) : List Int := (List.range 5).map fun q => if q < p then max (v.getD q 0) (w.getD q 0) else v.getD q 0
def vmore (v : List Int) (p : Nat) : List Int := v.set p (v.getD p 0 + 1)
def vst (l : List Ev) : Nat → List (List Int) × List (List Int)
  | 0 => ([], List.replicate 5 (List.replicate 5 0))
  | i + 1 =>
    ((vst l i).1 ++ [vmore (if 0 ≤ (l.getD i (0, 0, ())).2.1 then vjoin ((vst l i).2.getD (l.getD i (0, 0, ())).1.toNat []) ((vst l i).1.getD (l.getD i (0, 0, ())).2.1.toNat []) 5 else (vst l i).2.getD (l.getD i (0, 0, ())).1.toNat []) (l.getD i (0, 0, ())).1.toNat],
     (vst l i).2.set (l.getD i (0, 0, ())).1.toNat (vmore (if 0 ≤ (l.getD i (0, 0, ())).2.1 then vjoin ((vst l i).2.getD (l.getD i (0, 0, ())).1.toNat []) ((vst l i).1.getD (l.getD i (0, 0, ())).2.1.toNat []) 5 else (vst l i).2.getD (l.getD i (0, 0, ())).1.toNat []) (l.getD i (0, 0, ())).1.toNat))
def vecs (t : Tr) : List (List Int) := if chk t = 0 then (vst t.2.1 t.2.1.length).1.map (fun v => v.take t.1.toNat) else []
def cVecs : Ctr := cdet [tTr] (fun _ => True) (fun t => [⟨.sl (.sl I), vecs t⟩, ⟨tErr, chk t⟩])
def anVecs (t : Tr) : Ann :=
  [freezeAt 20 [10],
   loopAt 8 Nat [(6, 74, Ty.ar 5 I), (7, 30, Ty.sl I)] (fun st i => { St.at (St.only st [1, 5, 6, 7, 19, 20]) [(21, .d I (i : Int))] with ob := ((st.ob.set 1 (.var 100 (.ar 5 (.ar 5 I)) (vst t.2.1 i).2)).set 2 (.row 74 (.ar 5 I) (vst t.2.1 i).1)).set 3 (.row 30 (.sl I) ((vst t.2.1 i).1.map fun v => v.take t.1.toNat)) }) (fun _ i => i ≤ t.2.1.length ∧ True) (fun i => t.2.1.length - i),
   loopAt 13 Nat [] (fun st p => { St.at (St.only st [1, 5, 6, 7, 9, 10, 19, 20, 21, 36]) [(37, .d I (p : Int))] with ob := st.ob.set 5 (.var 74 (.ar 5 I) (vjoin ((vst t.2.1 (st.i 21).toNat).2.getD (t.2.1.getD (st.i 21).toNat (0, 0, ())).1.toNat []) ((vst t.2.1 (st.i 21).toNat).1.getD (t.2.1.getD (st.i 21).toNat (0, 0, ())).2.1.toNat []) p)) }) (fun _ p => p ≤ 5 ∧ True) (fun p => 5 - p)]
def cRows : Ctr := cdet [.sl (.sl I), .sl (.sl I)] (fun _ _ => True) (fun (a b : List (List Int)) => [⟨.bool, a == b⟩])
def anRows (a b : List (List Int)) : Ann := an1 Nat 4 (fun st i => St.at (St.only st [0, 1]) [(5, .d I (i : Int))]) (fun i => i ≤ a.length ∧ a.take i = b.take i) (fun i => a.length - i)
def cSFact : Ctr := cdet [] True [⟨.bool, true⟩]
end Go.Proofs.YtbpoeigaoakdiaaDoor
