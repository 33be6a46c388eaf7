/- HybridBefore's function answers true. -/
import Derived.Test.YtgbpjjinhjikeaaM5
import Derived.Test.YtgbpjjinhjikeaaV8
namespace Go.Proofs.Ytgbpjjinhjikeaa
open Go.Vc

theorem lessB_iff (a b : Stp) : lessB a b = true ↔ lexP a b := by
  simp [lessB, lexP]

theorem okLess : PlainOk Try.prog 19 cLess := by
  refine plain_of (CxOk.mk' Eh_ok (by kernel_rfl) mixed GOk.nil) Try.func19 (c := Try.f19.body.getD .skip) (rvs := [(.tmp 4, .bool)]) (by kernel_rfl) (by kernel_rfl) (by kernel_rfl) ?_
  intro ds k ⟨hp, hk⟩ hwf
  obtain ⟨a, b, rfl, -⟩ := dest2 hp
  refine ⟨[joinAll], ?_⟩
  clear hp hwf
  revert hk
  revert a b
  intro (a : Stp) (b : Stp) hk
  have hk : k [⟨.bool, lessB a b⟩] := hk
  rw [vcLess]
  have ret : ∀ x : Bool, lessB a b = x → k [⟨.bool, x⟩] := by rintro _ rfl; exact hk
  refine ⟨fun h => ret _ ?_, fun h => ⟨fun h2 => ret _ ?_, fun h2 => ret _ ?_⟩⟩
  · unfold lessB; rw [h]; rfl
  · unfold lessB; rw [h, h2]; simp
  · unfold lessB; rw [h, h2]; rfl

theorem many_vc (a : Int) (k : List Dat → Prop) (ha : inK .i64 a) (hk : k [⟨I, pop a⟩]) : vcF ⟨Eh, []⟩ (anMany a) (Try.f18.body.getD .skip) Try.f18.ntmps [(.tmp 2, I)] [⟨I, a⟩] k := by
  rw [vcMany]
  have ret : ∀ x : Int, pop a = x → k [⟨I, x⟩] := by rintro _ rfl; exact hk
  have hpa := pop_le ha
  simp only [decide_eq_true_eq, decide_eq_false_iff_not, and_true, true_and]
  refine ⟨⟨(a, 0), ⟨(show pop a = pop a + 0 by omega), Int.le_refl _, ha⟩, rfl, rfl⟩, ?_⟩
  rintro ⟨x, n⟩ ⟨h1, h2, h3⟩
  have h1 : pop a = pop x + n := h1
  have h2 : 0 ≤ n := h2
  have h3 : inK .i64 x := h3
  have h20 : ¬ (2 : Int) = 0 := by decide
  dsimp only
  refine ⟨fun hx => ?_, fun hx => ret _ (by rw [h1, pop_neg hx, Int.zero_add])⟩
  have hs := pop_pos hx
  have hh := half_in h3
  have hq := pop_nonneg (x.tdiv 2)
  have hm : 0 ≤ x.tmod 2 := Int.tmod_nonneg 2 (by omega)
  have hlt : (x.tdiv 2).toNat < x.toNat := by
    obtain ⟨n, hn⟩ := Int.eq_ofNat_of_zero_le (Int.le_of_lt hx)
    have e1 : (x.tdiv 2) = ((n / 2 : Nat) : Int) := by rw [hn]; simp
    rw [e1]; omega
  exact ⟨h20, hh.1, inK_i64.2 (by omega), h20, hh.2, (x.tdiv 2, n + x.tmod 2), ⟨(show pop a = pop (x.tdiv 2) + (n + x.tmod 2) by omega), (show 0 ≤ n + x.tmod 2 by omega), hh.2⟩, hlt, rfl, rfl⟩

theorem okMany : PlainOk Try.prog 18 cMany := by
  refine plain_of (CxOk.mk' Eh_ok (by kernel_rfl) mixed GOk.nil) Try.func18 (c := Try.f18.body.getD .skip) (rvs := [(.tmp 2, I)]) (by kernel_rfl) (by kernel_rfl) (by kernel_rfl) ?_
  intro ds k ⟨hp, hk⟩ hwf
  obtain ⟨a, rfl, -⟩ := dest1 hp
  have hk : k [⟨I, pop a⟩] := hk
  exact ⟨anMany a, many_vc a k (wf1 hwf) hk⟩

theorem mostP_new {t : Tr} {ts : List Int} {p q : Nat} {m : Int} (h : mostP t ts (p : Int) q m) (hq : q < t.2.1.length) (hb : bitB ((bef t).getD p 0) (q : Int) = true) (hm : m < ts.getD q 0) : mostP t ts (p : Int) (q + 1) (ts.getD q 0) := by
  unfold mostP at *
  simp only [Int.toNat_natCast] at *
  obtain ⟨h1, h2, _⟩ := h
  refine ⟨by omega, fun x hx hbx => ?_, .inr ⟨q, hq, hb, rfl⟩⟩
  by_cases hxq : x = q
  · rw [hxq]; omega
  · have := h2 x (by omega) hbx
    omega
theorem mostP_old {t : Tr} {ts : List Int} {p q : Nat} {m : Int} (h : mostP t ts (p : Int) q m) (hm : bitB ((bef t).getD p 0) (q : Int) = true → ¬ m < ts.getD q 0) : mostP t ts (p : Int) (q + 1) m := by
  unfold mostP at *
  obtain ⟨h1, h2, h3⟩ := h
  refine ⟨h1, fun x hx hbx => ?_, h3⟩
  by_cases hxq : x = q
  · subst hxq
    have := hm hbx
    omega
  · exact h2 x (by omega) hbx

theorem hbef_vc (t : Tr) (ts : List Int) (i j : Int) (k : List Dat → Prop) (hk : k [⟨.bool, true⟩]) : vcF ⟨Eh, [(16, cHFact), (17, cStamps), (11, cBefore), (13, cBit), (18, cMany), (19, cLess)]⟩ (anHBef t ts i) (Try.f7.body.getD .skip) Try.f7.ntmps [(.tmp 8, .bool)] [⟨tTr, t⟩, ⟨.sl I, ts⟩, ⟨I, i⟩, ⟨I, j⟩] k := by
  rw [vcHBef]
  have ret : ∀ x : Bool, x = true → k [⟨.bool, x⟩] := by rintro _ rfl; exact hk
  simp only [decide_eq_true_eq, decide_eq_false_iff_not, and_true, true_and, Bool.not_eq_true', Bool.not_eq_false', Int.toNat_natCast, implies_true, eq_self, inK_i64]
  refine ⟨(fun h => by cases h), fun _ => ⟨fun h => ret _ (by simp [h]), fun h => ⟨fun h2 => absurd (hchk_ok h).1 h2, fun hc => ⟨fun hne => ?_, fun _ => ⟨fun _ => hk, fun hi0 => ⟨fun _ => hk, fun hi1 => ⟨fun _ => hk, fun hj0 => ⟨fun _ => hk, fun hj1 => ?_⟩⟩⟩⟩⟩⟩⟩⟩
  · exfalso
    apply hne
    have e1 : stamps t ts = (sst t.2.1 ts t.2.1.length).1 := by unfold stamps; rw [if_pos h]
    rw [e1, (sst_len _ _ _).1, bef_len hc]
  obtain ⟨p, rfl⟩ := Int.eq_ofNat_of_zero_le (show 0 ≤ i by omega)
  obtain ⟨z, rfl⟩ := Int.eq_ofNat_of_zero_le (show 0 ≤ j by omega)
  obtain ⟨_, hl, ha⟩ := hchk_ok h
  have g := good_of hc
  have hlen := g.len
  have e1 : stamps t ts = (sst t.2.1 ts t.2.1.length).1 := by unfold stamps; rw [if_pos h]
  have s1 : (stamps t ts).length = t.2.1.length := by rw [e1, (sst_len _ _ _).1]
  have hbl := bef_len hc
  have hpl : p < t.2.1.length := by omega
  have hzl : z < t.2.1.length := by omega
  simp only [Int.toNat_natCast]
  have hst : ∀ y, y < t.2.1.length → (stamps t ts).getD y (0, 0, ()) = stp t.2.1 ts y := fun y hy => by rw [e1]; exact sst_keep _ _ _ hy
  have ht : ∀ y, 0 ≤ ts.getD y 0 := fun y => (time_at ha y).1
  refine ⟨by omega, by omega, ⟨(0, ts.getD p 0), ⟨Nat.zero_le _, Int.le_refl _, fun q hq => absurd hq (Nat.not_lt_zero _), .inl rfl⟩, rfl, rfl⟩, ?_⟩
  rintro ⟨q, m⟩ ⟨hq, hm⟩
  have hq : q ≤ t.2.1.length := hq
  have hm : mostP t ts (p : Int) q m := hm
  dsimp only
  refine ⟨fun hlt => ⟨by omega, by omega, fun hb => ⟨by omega, by omega, fun hgt => ⟨by omega, by omega, by omega, (q + 1, ts.getD q 0), ⟨(show q + 1 ≤ t.2.1.length by omega), mostP_new hm (by omega) hb hgt⟩, (show t.2.1.length - (q + 1) < t.2.1.length - q by omega), rfl, rfl⟩,
      fun hle => ⟨by omega, (q + 1, m), ⟨(show q + 1 ≤ t.2.1.length by omega), mostP_old hm fun _ => hle⟩, (show t.2.1.length - (q + 1) < t.2.1.length - q by omega), rfl, rfl⟩⟩,
      fun hb => ⟨by omega, (q + 1, m), ⟨(show q + 1 ≤ t.2.1.length by omega), mostP_old hm fun hb' => by rw [hb] at hb'; cases hb'⟩, (show t.2.1.length - (q + 1) < t.2.1.length - q by omega), rfl, rfl⟩⟩, fun hge => ?_⟩
  have hqn : q = t.2.1.length := by omega
  subst hqn
  have hbp := bef_at hc hpl
  simp only [hst p hpl, hst z hzl, hbp]
  have hbit : ∀ y : Nat, bitB ((bB t.2.1 p : Nat) : Int) (y : Int) = true ↔ (bB t.2.1 p).testBit y = true := fun y => by rw [bitB_nat]
  have htm : (stp t.2.1 ts p).1 = m := by
    obtain ⟨m1, m2, m3⟩ := hm
    simp only [Int.toNat_natCast, hbp] at m1 m2 m3
    have up : (stp t.2.1 ts p).1 ≤ m := by
      obtain ⟨y, hy, e⟩ := stp_mem (good_prc g) (good_frm g) ht hpl
      rw [e]
      rcases hy with hy | hy
      · rw [hy]; exact m1
      · have := bB_less (good_prc g) (good_frm g) hpl hy
        exact m2 y (by omega) ((hbit y).2 hy)
    have dn : m ≤ (stp t.2.1 ts p).1 := by
      rcases m3 with e | ⟨y, hy, hby, e⟩
      · rw [e]; exact stp_own (good_prc g) (good_frm g) hpl
      · rw [e]; exact stp_most (good_prc g) (good_frm g) hpl ((hbit y).1 hby)
    omega
  have hown := stp_own (ts := ts) (good_prc g) (good_frm g) hpl
  have hcn := stp_count (good_prc g) (good_frm g) ht hpl
  have hc0 : 0 ≤ (stp t.2.1 ts p).2.1 := by
    have := (sst_count t.2.1 ts t.2.1.length p).1.1
    rw [← e1, hst p hpl] at this
    exact this
  simp only [pop_nat]
  refine ⟨⟨by omega, by omega, fun _ => ⟨by omega, by omega, by omega, by omega, fun _ => ⟨by omega, by omega, fun _ => ⟨by omega, by omega, by omega, by omega⟩⟩⟩⟩, fun hbad => ?_, fun _ => ⟨⟨by omega, by omega, fun _ => ⟨by omega, by omega, by omega, by omega, fun _ => ⟨by omega, by omega, by omega, by omega⟩⟩⟩, ret _ ?_⟩⟩
  · exfalso
    simp only [Bool.or_eq_true, Bool.not_eq_true', decide_eq_true_eq, decide_eq_false_iff_not] at hbad
    omega
  · cases hq : bitB ((bB t.2.1 p : Nat) : Int) (z : Int) with
    | false => rfl
    | true =>
      have hx := stp_less (ts := ts) (good_prc g) (good_frm g) hpl ((hbit z).1 hq)
      have h1 : lessB (stp t.2.1 ts z) (stp t.2.1 ts p) = true := (lessB_iff _ _).2 hx
      have h2 : lessB (stp t.2.1 ts p) (stp t.2.1 ts z) = false := by
        cases hy : lessB (stp t.2.1 ts p) (stp t.2.1 ts z) with
        | false => rfl
        | true =>
          have hy' := (lessB_iff _ _).1 hy
          unfold lexP at hx hy'
          omega
      rw [h1, h2]; rfl

theorem okHBef : PlainOk Try.prog 7 (cdet [tTr, .sl I, I, I] (fun _ _ _ _ => True) (fun _ _ _ _ => [⟨.bool, true⟩])) := by
  refine plain_of (CxOk.mk' Eh_ok (by kernel_rfl) mixed (GOk.cons okHFact Try.func16 (by kernel_rfl) (by kernel_rfl) (GOk.cons okStamps Try.func17 (by kernel_rfl) (by kernel_rfl) (GOk.cons okBefore Try.func11 (by kernel_rfl) (by kernel_rfl) (GOk.cons okBit Try.func13 (by kernel_rfl) (by kernel_rfl) (GOk.cons okMany Try.func18 (by kernel_rfl) (by kernel_rfl) (GOk.cons okLess Try.func19 (by kernel_rfl) (by kernel_rfl) GOk.nil))))))) Try.func7 (c := Try.f7.body.getD .skip) (rvs := [(.tmp 8, .bool)]) (by kernel_rfl) (by kernel_rfl) (by kernel_rfl) ?_
  intro ds k ⟨hp, hk⟩ hwf
  obtain ⟨t, ts, i, j, rfl, -⟩ := dest4 hp
  exact ⟨anHBef t ts i, hbef_vc t ts i j k hk⟩
end Go.Proofs.Ytgbpjjinhjikeaa
