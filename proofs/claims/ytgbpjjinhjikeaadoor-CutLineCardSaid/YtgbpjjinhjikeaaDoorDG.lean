/- Cuts: of each process its events. -/
import Derived.Test.YtgbpjjinhjikeaaDoorDD
import Derived.Test.YtgbpjjinhjikeaaDoorDF
import Derived.Test.YtgbpjjinhjikeaaDoorDE
import Derived.Test.YtgbpjjinhjikeaaDoorDA
import Derived.Test.YtgbpjjinhjikeaaDoorVcPA
namespace Go.Proofs.YtgbpjjinhjikeaaDoor
open Go.Vc

theorem ofU_succ (l : List Ev) (p : Int) (k : Nat) : ofU l p (k + 1) = ofU l p k ++ (if (l.getD k (0, 0, ())).1 = p then [(k : Int)] else []) := by
  unfold ofU
  rw [List.range_succ, List.filter_append, List.map_append]
  congr 1
  rw [List.filter_cons]
  by_cases h : (l.getD k (0, 0, ())).1 = p
  · rw [if_pos (decide_eq_true h), if_pos h]; rfl
  · rw [if_neg (by simpa using h), if_neg h]; rfl
theorem ofU_len (l : List Ev) (p : Int) (k : Nat) : (ofU l p k).length ≤ k := by
  unfold ofU
  rw [List.length_map]
  exact Nat.le_trans (List.length_filter_le _ _) (by simp)
theorem rowsT_succ (t : Tr) (k : Nat) : rowsT t (k + 1) = rowsT t k ++ [ofT t (k : Int)] := by
  unfold rowsT
  rw [List.range_succ, List.map_append]; rfl
theorem rowsT_len (t : Tr) (k : Nat) : (rowsT t k).length = k := by simp [rowsT]
theorem rowsT_getD (t : Tr) {k p : Nat} (h : p < k) : (rowsT t k).getD p [] = ofT t (p : Int) := by
  unfold rowsT
  rw [List.getD_eq_getElem?_getD, List.getElem?_map, List.getElem?_range h]; rfl

theorem of_vc (t : Tr) (p : Int) (k : List Dat → Prop) (hk : k [⟨.sl I, if ofE t p = 0 then ofT t p else []⟩, ⟨tErr, ofE t p⟩]) :
    vcF ⟨Et, [(10, cCheck), (32, cWithin)], glT, [], []⟩ (anOf t p) (Tryd.f15.body.getD .skip) Tryd.f15.ntmps [(.tmp 4, .sl I), (.tmp 5, tErr)] [⟨tTr, t⟩, ⟨I, p⟩] k := by
  rw [vcOf]
  simp only [decide_eq_true_eq, decide_eq_false_iff_not, and_true, true_and, Bool.not_eq_true', Bool.not_eq_false', Int.toNat_natCast]
  refine ⟨fun h => ?_, fun h => ?_⟩
  · have e : ofE t p = chk t := by unfold ofE; rw [if_neg h]
    rw [e, if_neg h] at hk; exact hk
  · have g := good_of h
    have hl := g.len
    have hpr := g.procs
    refine ⟨inK_i64.2 (by omega), fun hw => ⟨by decide, ?_⟩, fun hw => ⟨⟨0, ⟨by omega, h⟩, rfl, rfl⟩, fun x ⟨hx, _⟩ => ⟨fun hlt => ⟨by omega, hlt, fun he => ⟨?_, inK_i64.2 (by omega), x + 1, ⟨by omega, h⟩, by omega, rfl, ?_⟩, fun he => ⟨inK_i64.2 (by omega), x + 1, ⟨by omega, h⟩, by omega, rfl, ?_⟩⟩, fun hge => ?_⟩⟩⟩
    · have e : ofE t p = 1 := by unfold ofE; rw [if_pos h, if_neg (by rw [hw]; decide)]
      rw [e] at hk; exact hk
    · have := ofU_len t.2.1 p x
      simp only [List.replicate, List.set, List.length_cons, List.length_nil]
      omega
    · rw [ofU_succ, if_pos he]; rfl
    · rw [ofU_succ, if_neg he, List.append_nil]
    · have : x = t.2.1.length := by omega
      subst this
      have e : ofE t p = 0 := by unfold ofE; rw [if_pos h, if_pos hw]
      rw [e] at hk; exact hk

theorem okOf : PlainOk Tryd.prog glT 15 cOf := by
  refine plain_of (CxOk.mk' Et_ok rfl mixed (gl := glT) (GOk.cons okCheck Tryd.func10 (by kernel_rfl) (by kernel_rfl) (GOk.cons okWithin Tryd.func32 (by kernel_rfl) (by kernel_rfl) GOk.nil)) GoOk.nil noIt) Tryd.func15 (c := Tryd.f15.body.getD .skip) (rvs := [(.tmp 4, .sl I), (.tmp 5, tErr)]) (by kernel_rfl) (by kernel_rfl) (by kernel_rfl) ?_
  intro ds k ⟨hp, hk⟩ hwf
  obtain ⟨t, p, rfl, -⟩ := dest2 hp
  exact ⟨anOf t p, of_vc t p k hk⟩

theorem ofE_of {t : Tr} {x : Nat} (hx : (x : Int) < t.1) : ofE t (x : Int) = chk t := by
  unfold ofE
  by_cases h : chk t = 0
  · rw [if_pos h, if_pos (by unfold inB; simp; omega), h]
  · rw [if_neg h]

theorem ofs_vc (t : Tr) (c : List Int) (k : List Dat → Prop) (ht : inK .i64 t.1) (hc : c.length ≤ maxLen) (hk : k [⟨.sl (.sl I), if cutE t c = 0 then rowsT t t.1.toNat else []⟩, ⟨tErr, cutE t c⟩]) :
    vcF ⟨Et, [(10, cCheck), (32, cWithin), (15, cOf)], glT, [], []⟩ (anOfs t c) (Tryd.f41.body.getD .skip) Tryd.f41.ntmps [(.tmp 4, .sl (.sl I)), (.tmp 5, tErr)] [⟨tTr, t⟩, ⟨.sl I, c⟩] k := by
  rw [vcOfs]
  have hml : maxLen ≤ 9223372036854775807 := by decide
  simp only [decide_eq_true_eq, decide_eq_false_iff_not, and_true, true_and, Bool.not_eq_true', Bool.not_eq_false', Int.toNat_natCast]
  have hb := inK_i64.1 ht
  have bad : chk t ≠ 0 → k [⟨.sl (.sl I), []⟩, ⟨tErr, chk t⟩] := by
    intro h
    have e : cutE t c = chk t := by unfold cutE; rw [if_neg h]
    rw [e, if_neg h] at hk; exact hk
  refine ⟨⟨0, ⟨.inr rfl, fun _ => .inr rfl⟩, rfl, rfl⟩, fun x ⟨hx, hx2⟩ => ⟨fun hlt => ?_, fun hge => ⟨bad, fun h => ⟨fun hne => ⟨by decide, ?_⟩, fun heq => ?_⟩⟩⟩⟩
  · rw [ofE_of hlt]
    refine ⟨bad, fun h => ?_⟩
    have hpr := (good_of h).procs
    rw [rowsT_len]
    refine ⟨by simp only [List.replicate, List.set, List.length_cons, List.length_nil]; omega, inK_i64.2 (by omega), x + 1, ⟨by omega, fun _ => .inl h⟩, by omega, rfl, ?_⟩
    rw [if_pos h, rowsT_succ]; rfl
  · have e : cutE t c = 3 := by unfold cutE; rw [if_pos h, if_neg hne]
    rw [e] at hk; exact hk
  · have hpr := (good_of h).procs
    have hx3 : x = t.1.toNat := by omega
    subst hx3
    simp only [rowsT_len]
    refine ⟨⟨0, ⟨by omega, h, heq, fun p hp => by omega⟩, rfl⟩, fun y ⟨hy, _, _, hall⟩ => ⟨fun hlt => ?_, fun hge2 => ?_⟩⟩
    · have hyt : y < t.1.toNat := by omega
      simp only [rowsT_getD t hyt]
      refine ⟨by omega, hlt, by omega, by omega, fun hw => ⟨by decide, ?_⟩, fun hw => ⟨inK_i64.2 (by omega), y + 1, ⟨by omega, h, heq, fun p hp => ?_⟩, by omega, rfl⟩⟩
      · have hno : cutOk t c = false := by
          cases hcase : cutOk t c with
          | false => rfl
          | true =>
            have := List.all_eq_true.1 hcase y (List.mem_range.2 (by omega))
            rw [hw] at this; cases this
        have e : cutE t c = 1 := by unfold cutE; rw [if_pos h, if_pos heq, if_neg (by rw [hno]; decide)]
        rw [e] at hk; exact hk
      · rcases Nat.lt_or_ge p y with hpy | hpy
        · exact hall p hpy
        · have : p = y := by omega
          subst this
          exact hw
    · have hyes : cutOk t c = true := List.all_eq_true.2 fun p hp => hall p (by have := List.mem_range.1 hp; omega)
      have e : cutE t c = 0 := by unfold cutE; rw [if_pos h, if_pos heq, if_pos hyes]
      rw [e] at hk; exact hk

theorem okOfs : PlainOk Tryd.prog glT 41 cOfs := by
  refine plain_of (CxOk.mk' Et_ok rfl mixed (gl := glT) (GOk.cons okCheck Tryd.func10 (by kernel_rfl) (by kernel_rfl) (GOk.cons okWithin Tryd.func32 (by kernel_rfl) (by kernel_rfl) (GOk.cons okOf Tryd.func15 (by kernel_rfl) (by kernel_rfl) GOk.nil))) GoOk.nil noIt) Tryd.func41 (c := Tryd.f41.body.getD .skip) (rvs := [(.tmp 4, .sl (.sl I)), (.tmp 5, tErr)]) (by kernel_rfl) (by kernel_rfl) (by kernel_rfl) ?_
  intro ds k ⟨hp, hk⟩ hwf
  obtain ⟨t, c, rfl, -⟩ := dest2 hp
  exact ⟨anOfs t c, ofs_vc t c k (wf2 hwf).1.1 (wf2 hwf).2.1 hk⟩
end Go.Proofs.YtgbpjjinhjikeaaDoor

/- Cuts: the events of a cut, and whether it is whole. -/
namespace Go.Proofs.YtgbpjjinhjikeaaDoor
open Go.Vc

theorem cut_ok {t : Tr} {c : List Int} (h : cutE t c = 0) : chk t = 0 ∧ (c.length : Int) = t.1 ∧ ∀ p, p < c.length → 0 ≤ c.getD p 0 ∧ c.getD p 0 ≤ ((ofT t (p : Int)).length : Int) := by
  unfold cutE at h
  split at h
  · rename_i h1
    split at h
    · rename_i h2
      split at h
      · rename_i h3
        refine ⟨h1, h2, fun p hp => ?_⟩
        have := List.all_eq_true.1 h3 p (List.mem_range.2 hp)
        unfold inB at this
        simpa using this
      · exact absurd h (by decide)
    · exact absurd h (by decide)
  · rename_i h1; exact absurd h h1
theorem ofT_mem {t : Tr} {p x : Int} (h : x ∈ ofT t p) : 0 ≤ x ∧ x < (t.2.1.length : Int) ∧ (t.2.1.getD x.toNat (0, 0, ())).1 = p := by
  unfold ofT ofU at h
  obtain ⟨i, hi, rfl⟩ := List.mem_map.1 h
  obtain ⟨h1, h2⟩ := List.mem_filter.1 hi
  have := List.mem_range.1 h1
  exact ⟨by omega, by omega, by simpa using h2⟩
theorem takeC_mem {t : Tr} {c : List Int} {p : Nat} {x : Int} (h : x ∈ takeC t c p) : 0 ≤ x ∧ x < (t.2.1.length : Int) ∧ (t.2.1.getD x.toNat (0, 0, ())).1 = (p : Int) := ofT_mem (List.mem_of_mem_take h)
theorem setK_succ (t : Tr) (c : List Int) (k : Nat) : setK t c (k + 1) = orB (setK t c k) (takeC t c k) := by
  unfold setK
  rw [List.range_succ, List.foldl_append]; rfl
theorem orB_snoc (s : Nat) (l : List Int) (x : Int) : orB s (l ++ [x]) = orB s l ||| 2 ^ x.toNat := by
  unfold orB
  rw [List.foldl_append]; rfl
theorem getD_at {l : List Int} {i : Nat} (h : i < l.length) : l.getD i 0 = l[i] := by
  rw [List.getD_eq_getElem?_getD, List.getElem?_eq_getElem h]; rfl
theorem take_snoc {l : List Int} {i : Nat} (h : i < l.length) : l.take (i + 1) = l.take i ++ [l.getD i 0] := by
  rw [List.take_add_one, List.getElem?_eq_getElem h, getD_at h]; rfl
theorem orB_bit (l : List Int) : ∀ (s i : Nat), (orB s l).testBit i = true ↔ s.testBit i = true ∨ ∃ x ∈ l, x.toNat = i := by
  induction l with
  | nil => intro s i; simp [orB]
  | cons a r ih =>
    intro s i
    have : orB s (a :: r) = orB (s ||| 2 ^ a.toNat) r := rfl
    rw [this, ih, bit_or2]
    constructor
    · rintro ((h | h) | ⟨x, hx, h⟩)
      · exact .inl h
      · exact .inr ⟨a, .head _, h.symm⟩
      · exact .inr ⟨x, .tail _ hx, h⟩
    · rintro (h | ⟨x, hx, h⟩)
      · exact .inl (.inl h)
      · rcases List.mem_cons.1 hx with rfl | hx
        · exact .inl (.inr h.symm)
        · exact .inr ⟨x, hx, h⟩
theorem setK_bit (t : Tr) (c : List Int) (i : Nat) : ∀ k, (setK t c k).testBit i = true ↔ ∃ p, p < k ∧ (i : Int) ∈ takeC t c p := by
  intro k
  induction k with
  | zero =>
    have : setK t c 0 = 0 := rfl
    rw [this, Nat.zero_testBit]
    exact ⟨fun h => (by cases h), fun ⟨p, h, _⟩ => absurd h (by omega)⟩
  | succ k ih =>
    rw [setK_succ, orB_bit, ih]
    constructor
    · rintro (⟨p, hp, h⟩ | ⟨x, hx, h⟩)
      · exact ⟨p, by omega, h⟩
      · have := (takeC_mem hx).1
        have e : x = (i : Int) := by omega
        exact ⟨k, by omega, e ▸ hx⟩
    · rintro ⟨p, hp, h⟩
      rcases Nat.lt_or_ge p k with hl | hl
      · exact .inl ⟨p, hl, h⟩
      · have : p = k := by omega
        subst this
        exact .inr ⟨_, h, rfl⟩
theorem setN_lt {t : Tr} (g : Good t) (c : List Int) (k : Nat) : setK t c k < 2 ^ 24 := by
  apply Nat.lt_pow_two_of_testBit
  intro i hi
  cases h : (setK t c k).testBit i with
  | false => rfl
  | true =>
    obtain ⟨p, _, hm⟩ := (setK_bit t c i k).1 h
    have := takeC_mem hm
    have := g.len
    omega

theorem events_vc (t : Tr) (c : List Int) (k : List Dat → Prop) (hk : k [⟨I, setE t c⟩, ⟨tErr, cutE t c⟩]) :
    vcF ⟨Et, [(41, cOfs)], glT, [], []⟩ (anEvents t c) (Tryd.f26.body.getD .skip) Tryd.f26.ntmps [(.tmp 4, I), (.tmp 5, tErr)] [⟨tTr, t⟩, ⟨.sl I, c⟩] k := by
  rw [vcEvents]
  simp only [decide_eq_true_eq, decide_eq_false_iff_not, and_true, true_and, Bool.not_eq_true', Bool.not_eq_false', Int.toNat_natCast]
  refine ⟨fun h => ?_, fun h => ?_⟩
  · have e : setE t c = 0 := by unfold setE; rw [if_neg h]
    rw [e] at hk; exact hk
  · obtain ⟨h1, h2, h3⟩ := cut_ok h
    have g := good_of h1
    have hl := g.len
    have hpr := g.procs
    have hif : (if cutE t c = 0 then rowsT t t.1.toNat else []) = rowsT t t.1.toNat := if_pos h
    simp only [hif, rowsT_len]
    simp only [h, and_true]
    refine ⟨⟨0, by omega, rfl, rfl⟩, fun x hx => ⟨fun hlt => ?_, fun hge => ?_⟩⟩
    · have hxt : x < t.1.toNat := by omega
      have hc := h3 x (by omega)
      have htk : List.drop (Int.toNat (0 : Int)) (List.take (c.getD x 0).toNat (ofT t (x : Int))) = takeC t c x := rfl
      simp only [rowsT_getD t hxt, htk]
      refine ⟨by omega, hlt, by omega, by omega, by omega, hc.1, hc.2, ⟨0, by omega, rfl, rfl⟩, fun y hy => ⟨fun hlt2 => ?_, fun hge2 => ⟨inK_i64.2 (by omega), x + 1, by omega, by omega, ?_, by omega⟩⟩⟩
      · have hyl : y < (takeC t c x).length := by omega
        have hm : (takeC t c x).getD y 0 ∈ takeC t c x := by rw [getD_at hyl]; exact List.getElem_mem hyl
        have hmm := takeC_mem hm
        have hlen : (takeC t c x).length ≤ t.2.1.length := by
          unfold takeC
          rw [List.length_take]
          have := ofU_len t.2.1 (x : Int) t.2.1.length
          unfold ofT
          omega
        rw [one_shl]
        have hp := two_pow_le (n := ((takeC t c x).getD y 0).toNat) (by omega)
        have hp2 := two_pow_pos ((takeC t c x).getD y 0).toNat
        have hpe : (((2 ^ ((takeC t c x).getD y 0).toNat : Nat)) : Int) = (2 : Int) ^ ((takeC t c x).getD y 0).toNat := by rw [Int.natCast_pow]; rfl
        refine ⟨by omega, hlt2, hmm.1, by omega, rfl, inK_i64.2 (by omega), by omega, by omega, inK_i64.2 (by omega), y + 1, by omega, by omega, ?_, by omega⟩
        rw [take_snoc hyl, orB_snoc, Int.toNat_natCast]
      · have : y = (takeC t c x).length := by omega
        subst this
        rw [List.take_length, setK_succ]
    · have : x = c.length := by omega
      subst this
      have e : setE t c = (setK t c c.length : Int) := by unfold setE; rw [if_pos h]; rfl
      rw [e, h] at hk; exact hk

theorem okEvents : PlainOk Tryd.prog glT 26 cEvents := by
  refine plain_of (CxOk.mk' Et_ok rfl mixed (gl := glT) (GOk.cons okOfs Tryd.func41 (by kernel_rfl) (by kernel_rfl) GOk.nil) GoOk.nil noIt) Tryd.func26 (c := Tryd.f26.body.getD .skip) (rvs := [(.tmp 4, I), (.tmp 5, tErr)]) (by kernel_rfl) (by kernel_rfl) (by kernel_rfl) ?_
  intro ds k ⟨hp, hk⟩ hwf
  obtain ⟨t, c, rfl, -⟩ := dest2 hp
  exact ⟨anEvents t c, events_vc t c k hk⟩

theorem okHas : PlainOk Tryd.prog glT 40 cHas := by
  refine plain_of (CxOk.mk' Et_ok rfl mixed (gl := glT) GOk.nil GoOk.nil noIt) Tryd.func40 (c := Tryd.f40.body.getD .skip) (rvs := [(.tmp 4, .bool)]) (by kernel_rfl) (by kernel_rfl) (by kernel_rfl) ?_
  intro ds k ⟨hp, hk⟩ hwf
  obtain ⟨s, i, rfl, ⟨⟨hs, hi, hi2⟩, -⟩⟩ := dest2 hp
  have hk : k [⟨.bool, s.toNat.testBit i.toNat⟩] := hk
  refine ⟨[], ?_⟩
  rw [vcHas]
  have hsw := inK_i64.1 (wf2 hwf).1
  have hpos : (0 : Int) < 2 ^ i.toNat := Int.pow_pos (by omega)
  have hdlt : s / (2 : Int) ^ i.toNat ≤ 9223372036854775807 := Int.le_trans (Int.ediv_le_self _ hs) hsw.2
  have hd1 : 0 ≤ s / (2 : Int) ^ i.toNat := Int.ediv_nonneg hs (by omega)
  have hd2 : s / (2 : Int) ^ i.toNat ≤ s := Int.ediv_le_self _ hs
  refine ⟨hi, hi2, rfl, inK_i64.2 ⟨Int.le_trans (by decide) hd1, hdlt⟩, hd1, by decide, ?_⟩
  have e1 : (s / (2 : Int) ^ i.toNat).toNat = s.toNat / 2 ^ i.toNat := by
    obtain ⟨n, rfl⟩ := Int.eq_ofNat_of_zero_le hs
    have : ((2 : Int) ^ i.toNat) = ((2 ^ i.toNat : Nat) : Int) := by rw [Int.natCast_pow]; rfl
    rw [this]; rfl
  have : decide ((((s / (2 : Int) ^ i.toNat).toNat &&& Int.toNat (1 : Int) : Nat) : Int) = 1) = s.toNat.testBit i.toNat := by
    have h1 : Int.toNat (1 : Int) = 1 := rfl
    rw [e1, h1, Nat.and_one_is_mod, Nat.testBit_eq_decide_div_mod_eq]
    by_cases h : s.toNat / 2 ^ i.toNat % 2 = 1
    · rw [h]; rfl
    · rw [decide_eq_false h]
      exact decide_eq_false (by omega)
  rw [this]
  exact hk

theorem okBits : PlainOk Tryd.prog glT 39 cBitsF := by
  refine plain_of (CxOk.mk' Et_ok rfl mixed (gl := glT) GOk.nil GoOk.nil noIt) Tryd.func39 (c := Tryd.f39.body.getD .skip) (rvs := [(.tmp 2, tF)]) (by kernel_rfl) (by kernel_rfl) (by kernel_rfl) ?_
  intro ds k ⟨hp, hk⟩ hwf
  obtain ⟨s, rfl, -⟩ := dest1 hp
  refine ⟨anBits, ?_⟩
  rw [vcBits]
  exact hk

theorem bitsOf_mem {N : Nat} (hN : N < 2 ^ 64) (y : Int) : y ∈ bitsOf (N : Int) ↔ ∃ i : Nat, y = (i : Int) ∧ N.testBit i = true := by
  have e : ((N : Int) % 18446744073709551616).toNat = N := by
    have : N < 18446744073709551616 := hN
    omega
  unfold bitsOf bitsN
  rw [e]
  constructor
  · intro h
    obtain ⟨i, hi, rfl⟩ := List.mem_map.1 h
    exact ⟨i, rfl, (List.mem_filter.1 hi).2⟩
  · rintro ⟨i, rfl, hi⟩
    refine List.mem_map.2 ⟨i, List.mem_filter.2 ⟨List.mem_range'_1.2 ⟨by omega, ?_⟩, hi⟩, rfl⟩
    rcases Nat.lt_or_ge i 64 with h | h
    · omega
    · have := Nat.testBit_lt_two_pow (Nat.lt_of_lt_of_le hN (Nat.pow_le_pow_right (by omega) h))
      rw [this] at hi; cases hi

theorem is_vc (t : Tr) (c : List Int) (k : List Dat → Prop) (hk : k [⟨.bool, if cutE t c = 0 then wholeB t c else false⟩, ⟨tErr, cutE t c⟩]) :
    vcF ⟨Et, [(26, cEvents), (39, cBitsF), (40, cHas)], glT, [(45, cBits)], []⟩ (anIs t c) (Tryd.f25.body.getD .skip) Tryd.f25.ntmps [(.cell 4 4, .bool), (.cell 5 28, tErr)] [⟨tTr, t⟩, ⟨.sl I, c⟩] k := by
  rw [vcIs]
  simp only [decide_eq_true_eq, decide_eq_false_iff_not, and_true, true_and, Bool.not_eq_true', Bool.not_eq_false']
  refine ⟨fun h => ?_, fun h => ?_⟩
  · rw [if_neg h] at hk; exact hk
  · obtain ⟨h1, h2, h3⟩ := cut_ok h
    have g := good_of h1
    have hl := g.len
    have hS : setE t c = (setN t c : Int) := by unfold setE; rw [if_pos h]
    have hlt : setN t c < 2 ^ 64 := Nat.lt_trans (setN_lt g c _) (by decide)
    rw [if_pos h] at hk
    rw [hS]
    simp only [h, true_and, Int.toNat_natCast]
    rw [h] at hk
    have ext : ∀ (x : List Int) (y : Int), (∀ z ∈ x, heard t.2.1 (setN t c) z = true) → heard t.2.1 (setN t c) y = true → ∀ z ∈ x ++ [y], heard t.2.1 (setN t c) z = true := by
      intro x y hx hy z hz
      rcases List.mem_append.1 hz with hz | hz
      · exact hx z hz
      · rw [List.mem_singleton.1 hz]; exact hy
    refine ⟨⟨[], fun y hy => (by cases hy), rfl⟩, fun _ _ => trivial, fun x y rest hx hxs => ?_, fun x hx hxs => ?_⟩
    · have hy : y ∈ bitsOf (setN t c : Int) := by rw [hxs]; exact List.mem_append_right _ (.head _)
      obtain ⟨i, rfl, hi⟩ := (bitsOf_mem hlt y).1 hy
      obtain ⟨p, _, hm⟩ := (setK_bit t c i c.length).1 hi
      have hmm := takeC_mem hm
      have hil : i < t.2.1.length := by omega
      have he := g.ev i hil
      rw [Int.toNat_natCast]
      refine ⟨by omega, by omega, fun h0 => ⟨⟨by omega, h0, by omega⟩, fun hb => ?_, fun hb => ⟨x ++ [(i : Int)], ext x i hx ?_, rfl⟩⟩, fun h0 => ⟨x ++ [(i : Int)], ext x i hx ?_, rfl⟩⟩
      · have : wholeB t c = false := by
          cases hw : wholeB t c with
          | false => rfl
          | true =>
            have := List.all_eq_true.1 hw _ hy
            unfold heard at this
            rw [Int.toNat_natCast, hb, decide_eq_false (by omega)] at this
            cases this
        rw [this] at hk; exact hk
      · unfold heard
        rw [Int.toNat_natCast, hb, Bool.or_true]
      · unfold heard
        rw [Int.toNat_natCast, decide_eq_true (by omega), Bool.true_or]
    · have : wholeB t c = true := List.all_eq_true.2 fun y hy => hx y (hxs ▸ hy)
      rw [this] at hk; exact hk

theorem itB : ∀ g c, (g, c) ∈ [(45, cBits)] → ItOk Tryd.prog glT g c := fun g c h => by
  obtain ⟨rfl, rfl⟩ := Prod.mk.inj (List.mem_singleton.1 h)
  exact itBits

theorem okIs : PlainOk Tryd.prog glT 25 cIs := by
  refine plain_of (CxOk.mk' Et_ok rfl mixed (gl := glT) (GOk.cons okEvents Tryd.func26 (by kernel_rfl) (by kernel_rfl) (GOk.cons okBits Tryd.func39 (by kernel_rfl) (by kernel_rfl) (GOk.cons okHas Tryd.func40 (by kernel_rfl) (by kernel_rfl) GOk.nil))) GoOk.nil itB) Tryd.func25 (c := Tryd.f25.body.getD .skip) (rvs := [(.cell 4 4, .bool), (.cell 5 28, tErr)]) (by kernel_rfl) (by kernel_rfl) (by kernel_rfl) ?_
  intro ds k ⟨hp, hk⟩ hwf
  obtain ⟨t, c, rfl, -⟩ := dest2 hp
  exact ⟨anIs t c, is_vc t c k hk⟩
end Go.Proofs.YtgbpjjinhjikeaaDoor

/- Cuts: whole cuts are a lattice; what the line in a cut comes to. -/
namespace Go.Proofs.YtgbpjjinhjikeaaDoor
open Go.Vc

theorem cut_mk {t : Tr} {c : List Int} (h1 : chk t = 0) (h2 : (c.length : Int) = t.1) (h3 : ∀ p, p < c.length → 0 ≤ c.getD p 0 ∧ c.getD p 0 ≤ ((ofT t (p : Int)).length : Int)) : cutE t c = 0 := by
  unfold cutE
  have : cutOk t c = true := List.all_eq_true.2 fun p hp => by
    have := h3 p (List.mem_range.1 hp)
    unfold inB
    simpa using this
  rw [if_pos h1, if_pos h2, if_pos this]

theorem setN_bit (t : Tr) (c : List Int) (i : Nat) : (setN t c).testBit i = true ↔ ∃ p, p < c.length ∧ (i : Int) ∈ takeC t c p := setK_bit t c i _

theorem take_le {c d : List Int} {t : Tr} {p : Nat} (h : c.getD p 0 ≤ d.getD p 0) {y : Int} (hy : y ∈ takeC t c p) : y ∈ takeC t d p := by
  unfold takeC at *
  exact List.mem_of_mem_take (i := (c.getD p 0).toNat) (by rw [List.take_take, Nat.min_eq_left (by omega)]; exact hy)

theorem setN_le {t : Tr} {c d : List Int} (h : leC c d) {i : Nat} (hi : (setN t c).testBit i = true) : (setN t d).testBit i = true := by
  obtain ⟨p, hp, hm⟩ := (setN_bit t c i).1 hi
  exact (setN_bit t d i).2 ⟨p, by rw [← h.1]; exact hp, take_le (h.2 p hp) hm⟩

theorem heard_iff {l : List Ev} {N : Nat} {y : Int} : heard l N y = true ↔ (0 ≤ (l.getD y.toNat (0, 0, ())).2.1 → N.testBit (l.getD y.toNat (0, 0, ())).2.1.toNat = true) := by
  unfold heard
  rw [Bool.or_eq_true, decide_eq_true_eq]
  constructor
  · rintro (h | h) h0
    · omega
    · exact h
  · intro h
    by_cases h0 : 0 ≤ (l.getD y.toNat (0, 0, ())).2.1
    · exact .inr (h h0)
    · exact .inl (by omega)

theorem heard_le {t : Tr} {c d : List Int} (h : leC c d) {y : Int} (hy : heard t.2.1 (setN t c) y = true) : heard t.2.1 (setN t d) y = true := by
  rw [heard_iff] at *
  exact fun h0 => setN_le h (hy h0)

theorem whole_iff {t : Tr} (h : chk t = 0) (c : List Int) : wholeB t c = true ↔ fineP t c c.length := by
  have g := good_of h
  have hlt : setN t c < 2 ^ 64 := Nat.lt_trans (setN_lt g c _) (by decide)
  unfold wholeB
  rw [List.all_eq_true]
  constructor
  · intro hw p hp y hy
    have hm := takeC_mem hy
    refine hw y ((bitsOf_mem hlt y).2 ⟨y.toNat, by omega, (setN_bit t c _).2 ⟨p, hp, ?_⟩⟩)
    rw [show ((y.toNat : Nat) : Int) = y by omega]; exact hy
  · intro hf y hy
    obtain ⟨i, rfl, hi⟩ := (bitsOf_mem hlt y).1 hy
    obtain ⟨p, hp, hm⟩ := (setN_bit t c i).1 hi
    exact hf p hp _ hm

theorem getD_set_eq {l : List Int} {p q : Nat} {n : Int} (hp : p < l.length) : (l.set p n).getD q 0 = if p = q then n else l.getD q 0 := by
  rw [List.getD_eq_getElem?_getD, List.getElem?_set]
  by_cases h : p = q
  · rw [if_pos h, if_pos h]
    subst h
    rw [if_pos hp]; rfl
  · rw [if_neg h, if_neg h, List.getD_eq_getElem?_getD]

theorem takeC_len (t : Tr) (c : List Int) (p : Nat) : (takeC t c p).length ≤ (c.getD p 0).toNat ∧ (takeC t c p).length ≤ (ofT t (p : Int)).length := by
  unfold takeC
  rw [List.length_take]
  omega

theorem takeC_at {t : Tr} {c : List Int} {p n : Nat} (h : n < (takeC t c p).length) : (takeC t c p).getD n 0 = (ofT t (p : Int)).getD n 0 := by
  have h2 := takeC_len t c p
  rw [getD_at h, getD_at (by omega)]
  exact List.getElem_take

/-- what was heard of and is not there: the cut has to end ahead of it -/
theorem line_step {t : Tr} {c l l0 : List Int} (h : lnP t c l) (hle : leC l l0) {p n : Nat} (hp : p < l.length) (hn : n < (takeC t l p).length)
    (hno : heard t.2.1 (setN t l0) ((takeC t l p).getD n 0) = false) : lnP t c (l.set p (n : Int)) := by
  obtain ⟨h1, h2, h3⟩ := h
  obtain ⟨k1, k2, k3⟩ := cut_ok h1
  have htl := takeC_len t l p
  have hlp := k3 p hp
  refine ⟨cut_mk k1 (by rw [List.length_set]; exact k2) fun q hq => ?_, ⟨by rw [List.length_set]; exact h2.1, fun q hq => ?_⟩, fun d hd hdc => ?_⟩
  · rw [List.length_set] at hq
    rw [getD_set_eq hp]
    split
    · rename_i e; subst e; omega
    · exact k3 q hq
  · rw [List.length_set] at hq
    rw [getD_set_eq hp]
    have := h2.2 q hq
    split
    · rename_i e; subst e; omega
    · exact this
  · have hdl := h3 d hd hdc
    refine ⟨by rw [List.length_set]; exact hdl.1, fun q hq => ?_⟩
    rw [getD_set_eq hp]
    split
    · rename_i e
      subst e
      refine Int.not_lt.1 fun hgt => ?_
      have hnd : n < (takeC t d p).length := by
        unfold takeC
        rw [List.length_take]
        omega
      have hy : (takeC t l p).getD n 0 ∈ takeC t d p := by
        rw [takeC_at hn, ← takeC_at hnd, getD_at hnd]
        exact List.getElem_mem hnd
      have hh := (whole_iff k1 d).1 hd.2 p hq _ hy
      have := heard_le hle (heard_le hdl hh)
      rw [hno] at this; cases this
    · exact hdl.2 q hq

theorem sum_set : ∀ (l : List Int) (p : Nat) (n : Int), p < l.length → n.toNat < (l.getD p 0).toNat → sumC (l.set p n) < sumC l := by
  intro l
  induction l with
  | nil => intro p n hp; cases hp
  | cons a r ih =>
    intro p n hp hn
    cases p with
    | zero =>
      have hn : n.toNat < a.toNat := hn
      simp only [sumC, List.set_cons_zero, List.map_cons, List.sum_cons]
      omega
    | succ p =>
      have := ih p n (by simpa using hp) hn
      simp only [sumC, List.set_cons_succ, List.map_cons, List.sum_cons] at *
      omega

/-- the greater numbers, or the lesser ones, of two whole cuts -/
theorem whole_max {t : Tr} {x y m : List Int} (hx : wholeP t x) (hy : wholeP t y) (hm : m.length = x.length) (h : ∀ p, p < x.length → m.getD p 0 = if x.getD p 0 < y.getD p 0 then y.getD p 0 else x.getD p 0) : wholeP t m := by
  obtain ⟨a1, a2, a3⟩ := cut_ok hx.1
  obtain ⟨b1, b2, b3⟩ := cut_ok hy.1
  have hxy : x.length = y.length := by omega
  have lx : leC x m := ⟨hm.symm, fun p hp => by rw [h p hp]; split <;> omega⟩
  have ly : leC y m := ⟨by omega, fun p hp => by rw [h p (by omega)]; split <;> omega⟩
  refine ⟨cut_mk a1 (by omega) fun p hp => ?_, (whole_iff a1 m).2 fun p hp z hz => ?_⟩
  · rw [h p (by omega)]
    split
    · exact b3 p (by omega)
    · exact a3 p (by omega)
  · have hh := h p (by omega)
    split at hh
    · exact heard_le ly ((whole_iff a1 y).1 hy.2 p (by omega) z (take_le (c := m) (by omega) hz))
    · exact heard_le lx ((whole_iff a1 x).1 hx.2 p (by omega) z (take_le (c := m) (by omega) hz))

theorem whole_min {t : Tr} {x y m : List Int} (hx : wholeP t x) (hy : wholeP t y) (hm : m.length = x.length) (h : ∀ p, p < x.length → m.getD p 0 = if x.getD p 0 < y.getD p 0 then x.getD p 0 else y.getD p 0) : wholeP t m := by
  obtain ⟨a1, a2, a3⟩ := cut_ok hx.1
  obtain ⟨b1, b2, b3⟩ := cut_ok hy.1
  have hxy : x.length = y.length := by omega
  refine ⟨cut_mk a1 (by omega) fun p hp => ?_, (whole_iff a1 m).2 fun p hp z hz => ?_⟩
  · rw [h p (by omega)]
    split
    · exact a3 p (by omega)
    · exact b3 p (by omega)
  · have hh := h p (by omega)
    have hzx := (whole_iff a1 x).1 hx.2 p (by omega) z (take_le (c := m) (by rw [hh]; split <;> omega) hz)
    have hzy := (whole_iff a1 y).1 hy.2 p (by omega) z (take_le (c := m) (by rw [hh]; split <;> omega) hz)
    rw [heard_iff] at *
    intro h0
    obtain ⟨q, hq, hqm⟩ := (setN_bit t x _).1 (hzx h0)
    obtain ⟨r, hr, hrm⟩ := (setN_bit t y _).1 (hzy h0)
    have e1 := (takeC_mem hqm).2.2
    have e2 := (takeC_mem hrm).2.2
    have : q = r := by omega
    subst this
    refine (setN_bit t m _).2 ⟨q, by omega, ?_⟩
    have hh2 := h q hq
    split at hh2
    · exact take_le (c := x) (by omega) hqm
    · exact take_le (c := y) (by omega) hrm

theorem ofU_sorted (l : List Ev) (p : Int) (k : Nat) : (ofU l p k).Pairwise (· < ·) := by
  unfold ofU
  rw [List.pairwise_map]
  exact ((List.pairwise_lt_range (n := k)).filter _).imp fun h => by omega

theorem ofT_has {t : Tr} {i : Nat} (hi : i < t.2.1.length) : (i : Int) ∈ ofT t (t.2.1.getD i (0, 0, ())).1 := by
  unfold ofT ofU
  exact List.mem_map.2 ⟨i, List.mem_filter.2 ⟨List.mem_range.2 hi, by simp⟩, rfl⟩

theorem take_down {t : Tr} {c : List Int} {p i j : Nat} (hi : (i : Int) ∈ takeC t c p) (hji : j < i) (hj : (t.2.1.getD j (0, 0, ())).1 = (t.2.1.getD i (0, 0, ())).1) : (j : Int) ∈ takeC t c p := by
  have hm := takeC_mem hi
  have hjp : (t.2.1.getD j (0, 0, ())).1 = (p : Int) := by rw [hj]; exact hm.2.2
  have hjm : (j : Int) ∈ ofT t (p : Int) := by
    have := ofT_has (t := t) (i := j) (by omega)
    rw [hjp] at this; exact this
  have hs := ofU_sorted t.2.1 (p : Int) t.2.1.length
  have e : ofU t.2.1 (p : Int) t.2.1.length = takeC t c p ++ (ofT t (p : Int)).drop (c.getD p 0).toNat := (List.take_append_drop _ _).symm
  have hjm' : (j : Int) ∈ ofU t.2.1 (p : Int) t.2.1.length := hjm
  rw [e] at hs hjm'
  rcases List.mem_append.1 hjm' with h | h
  · exact h
  · have := (List.pairwise_append.1 hs).2.2 _ hi _ h
    omega

/-- a whole cut has all that happened before what it has -/
theorem whole_before {t : Tr} (h : chk t = 0) (c : List Int) (hc : cutE t c = 0) :
    wholeB t c = true ↔ ∀ i, i < t.2.1.length → (setN t c).testBit i = true → ∀ k, (bB t.2.1 i).testBit k = true → (setN t c).testBit k = true := by
  have g := good_of h
  rw [whole_iff h]
  constructor
  · intro hf i
    induction i using Nat.strongRecOn with
    | _ i ih =>
      intro hi hs k hk
      obtain ⟨j, hj, hjk⟩ := (bB_bit (good_prc g) (good_frm g) hi k).1 hk
      obtain ⟨p, hp, hm⟩ := (setN_bit t c i).1 hs
      have hjs : (setN t c).testBit j = true := by
        rcases hj with ⟨hji, h1 | h1⟩
        · refine (setN_bit t c j).2 ⟨p, hp, take_down hm hji ((prc_eq g hi (by omega)).1 h1.1)⟩
        · have := (heard_iff).1 (hf p hp _ hm)
          rw [Int.toNat_natCast] at this
          have h1' : (t.2.1.getD i (0, 0, ())).2.1 = (j : Int) := h1
          rw [h1', Int.toNat_natCast] at this
          exact this (by omega)
      rcases hjk with hjk | rfl
      · exact ih j hj.1 (by have := hj.1; omega) hjs k hjk
      · exact hjs
  · intro hb p hp y hy
    have hm := takeC_mem hy
    obtain ⟨i, rfl⟩ := Int.eq_ofNat_of_zero_le hm.1
    have hil : i < t.2.1.length := by have := hm.2.1; omega
    rw [heard_iff, Int.toNat_natCast]
    intro h0
    have he := g.ev i hil
    refine hb i hil ((setN_bit t c i).2 ⟨p, hp, hy⟩) _ (bB_must (good_prc g) (good_frm g) hil (by omega) (.inr ?_))
    show (t.2.1.getD i (0, 0, ())).2.1 = _
    omega
end Go.Proofs.YtgbpjjinhjikeaaDoor

/- Cuts: the line in a cut, and the small trace. -/
namespace Go.Proofs.YtgbpjjinhjikeaaDoor
open Go.Vc

theorem line_vc (t : Tr) (c : List Int) (k : List Dat → Prop) (hk1 : cutE t c = 0 → ∀ l : List Int, lineP t c l → k [⟨.sl I, l⟩, ⟨tErr, (0 : Int)⟩]) (hk2 : cutE t c ≠ 0 → k [⟨.sl I, ([] : List Int)⟩, ⟨tErr, cutE t c⟩]) :
    vcF ⟨Et, [(41, cOfs), (26, cEvents), (40, cHas)], glT, [], []⟩ (anLine t c) (Tryd.f29.body.getD .skip) Tryd.f29.ntmps [(.tmp 4, .sl I), (.tmp 5, tErr)] [⟨tTr, t⟩, ⟨.sl I, c⟩] k := by
  rw [vcLine]
  simp only [decide_eq_true_eq, decide_eq_false_iff_not, and_true, true_and, Bool.not_eq_true', Bool.not_eq_false', Int.toNat_natCast]
  refine ⟨hk2, fun h => ?_⟩
  obtain ⟨h1, h2, h3⟩ := cut_ok h
  have g := good_of h1
  have hl := g.len
  have hpr := g.procs
  have hif : (if cutE t c = 0 then rowsT t t.1.toNat else []) = rowsT t t.1.toNat := if_pos h
  have hk1 := hk1 h
  simp only [hif, rowsT_len]
  simp only [h, and_true]
  have ln0 : lnP t c c := ⟨h, ⟨rfl, fun _ _ => Int.le_refl _⟩, fun d _ hd => hd⟩
  refine ⟨by omega, ⟨c, ln0, rfl⟩, fun x hx => ⟨fun hne => absurd hx.1 hne, fun hxe => ?_⟩⟩
  obtain ⟨k1, k2, k3⟩ := cut_ok hx.1
  have hS : (setE t x).toNat = setN t x := by unfold setE; rw [if_pos hx.1]; exact Int.toNat_natCast _
  have hS0 : 0 ≤ setE t x := by unfold setE; rw [if_pos hx.1]; exact Int.natCast_nonneg _
  rw [hS]
  refine ⟨⟨(0, false, x), ⟨by omega, hx, ⟨rfl, fun _ _ => Int.le_refl _⟩, fun _ => ⟨rfl, fun p hp => by omega⟩, (fun h => by cases h)⟩, ⟨rfl, rfl⟩, rfl⟩, fun y ⟨y1, y2, y3, y4, y5⟩ => ⟨fun hlt => ?_, fun hge => ?_⟩⟩
  · obtain ⟨p, ag, l⟩ := y
    simp only at *
    obtain ⟨m1, m2, m3⟩ := cut_ok y2.1
    have hpl : p < l.length := by have := y3.1; omega
    have hpt : p < t.1.toNat := by omega
    have hlp := m3 p hpl
    have htk : List.drop (Int.toNat (0 : Int)) (List.take (l.getD p 0).toNat (ofT t (p : Int))) = takeC t l p := rfl
    simp only [rowsT_getD t hpt, htk]
    refine ⟨⟨by omega, by omega, by omega, by omega, by omega, hlp.1, hlp.2⟩, ⟨0, ⟨by omega, fun z hz => by simp at hz⟩, rfl⟩, fun n ⟨n1, n2⟩ => ⟨fun hnlt => ?_, fun hnge => ⟨inK_i64.2 (by omega), ?_⟩⟩⟩
    · have hnl : n < (takeC t l p).length := by omega
      have hlen : (takeC t l p).length ≤ t.2.1.length := by
        have h1 := (takeC_len t l p).2
        have h2 := ofU_len t.2.1 (p : Int) t.2.1.length
        unfold ofT at h1
        omega
      have hm : (takeC t l p).getD n 0 ∈ takeC t l p := by rw [getD_at hnl]; exact List.getElem_mem hnl
      have hmm := takeC_mem hm
      have hev := g.ev ((takeC t l p).getD n 0).toNat (by omega)
      have hext : heard t.2.1 (setN t x) ((takeC t l p).getD n 0) = true → ∀ z ∈ (takeC t l p).take (n + 1), heard t.2.1 (setN t x) z = true := by
        intro hh z hz
        rw [take_snoc hnl] at hz
        rcases List.mem_append.1 hz with hz | hz
        · exact n2 z hz
        · rw [List.mem_singleton.1 hz]; exact hh
      refine ⟨by omega, by omega, hmm.1, hmm.2.1, fun h0 => ⟨⟨hS0, h0, by omega⟩, fun hb => ⟨by omega, by omega, inK_i64.2 (by omega), (p + 1, true, l.set p (n : Int)), ⟨by simp only; omega, ?_, ?_, (fun h => by cases h), fun _ => ?_⟩, by simp only; omega, ⟨rfl, by simp only; omega⟩, rfl⟩, fun hb => ⟨inK_i64.2 (by omega), n + 1, ⟨by omega, hext ?_⟩, by omega, by omega⟩⟩, fun h0 => ⟨inK_i64.2 (by omega), n + 1, ⟨by omega, hext ?_⟩, by omega, by omega⟩⟩
      · refine line_step y2 y3 hpl hnl ?_
        cases hh : heard t.2.1 (setN t x) ((takeC t l p).getD n 0) with
        | false => rfl
        | true =>
          have := heard_iff.1 hh h0
          rw [hb] at this; cases this
      · have htl := (takeC_len t l p).1
        refine ⟨by rw [List.length_set]; exact y3.1, fun q hq => ?_⟩
        rw [List.length_set] at hq
        rw [getD_set_eq hpl]
        have := y3.2 q hq
        split
        · rename_i e; subst e; omega
        · exact this
      · have htl := (takeC_len t l p).1
        have h1 := sum_set l p (n : Int) hpl (by omega)
        show sumC (l.set p (n : Int)) < sumC x
        cases ag with
        | true => have := y5 rfl; omega
        | false =>
          have e : l = x := (y4 rfl).1
          rw [← e]; exact h1
      · exact heard_iff.2 fun _ => hb
      · exact heard_iff.2 fun h => absurd h h0
    · refine ⟨(p + 1, ag, l), ⟨by simp only; omega, y2, y3, fun ha => ⟨(y4 ha).1, fun q hq z hz => ?_⟩, y5⟩, by simp only; omega, ⟨rfl, by simp only; omega⟩, rfl⟩
      rcases Nat.lt_or_ge q p with hqp | hqp
      · exact (y4 ha).2 q hqp z hz
      · have hqe : q = p := by omega
        subst hqe
        have hnl : n = (takeC t l q).length := by omega
        rw [hnl, List.take_length] at n2
        rw [← (y4 ha).1] at hz
        exact n2 z hz
  · obtain ⟨p, ag, l⟩ := y
    simp only at *
    refine ⟨fun ha => ?_, fun ha => ⟨l, y2, y5 ha, rfl⟩⟩
    obtain ⟨e, hf⟩ := y4 ha
    subst e
    exact hk1 l ⟨hx, (whole_iff h1 l).2 fun q hq => hf q (by omega)⟩

theorem okLine : PlainOk Tryd.prog glT 29 cLine := by
  refine plain_of (CxOk.mk' Et_ok rfl mixed (gl := glT) (GOk.cons okOfs Tryd.func41 (by kernel_rfl) (by kernel_rfl) (GOk.cons okEvents Tryd.func26 (by kernel_rfl) (by kernel_rfl) (GOk.cons okHas Tryd.func40 (by kernel_rfl) (by kernel_rfl) GOk.nil))) GoOk.nil noIt) Tryd.func29 (c := Tryd.f29.body.getD .skip) (rvs := [(.tmp 4, .sl I), (.tmp 5, tErr)]) (by kernel_rfl) (by kernel_rfl) (by kernel_rfl) ?_
  intro ds k hs hwf
  obtain ⟨t, c, rfl, h⟩ := gdest2 hs
  refine ⟨anLine t c, line_vc t c k (fun h0 l hl => ?_) fun h0 => h [] (fun e => absurd e h0) fun _ => rfl⟩
  have := h l (fun _ => hl) fun e => absurd h0 e
  rw [h0] at this; exact this

theorem okFact : PlainOk Tryd.prog glT 24 cFact := by
  refine plain_of (CxOk.mk' Et_ok rfl mixed (gl := glT) (GOk.cons okTalk Tryd.func38 (by kernel_rfl) (by kernel_rfl) (GOk.cons okIs Tryd.func25 (by kernel_rfl) (by kernel_rfl) GOk.nil)) GoOk.nil noIt) Tryd.func24 (c := Tryd.f24.body.getD .skip) (rvs := [(.tmp 0, .bool)]) (by kernel_rfl) (by kernel_rfl) (by kernel_rfl) ?_
  intro ds k ⟨hp, hk⟩ hwf
  obtain ⟨rfl, -⟩ := dest0 hp
  have hk : k [⟨.bool, true⟩] := hk
  refine ⟨[], ?_⟩
  rw [vcFact]
  have e1 : cutE talkT [0, 1] = 0 := by decide +kernel
  have e2 : cutE talkT [1, 1] = 0 := by decide +kernel
  have w1 : wholeB talkT [0, 1] = false := by decide +kernel
  have w2 : wholeB talkT [1, 1] = true := by decide +kernel
  have l1 : ((List.replicate 2 (0 : Int)).set 0 0).set 1 1 = [0, 1] := rfl
  have l2 : ((List.replicate 2 (0 : Int)).set 0 1).set 1 1 = [1, 1] := rfl
  simp only [l1, l2, e1, e2, w1, w2, if_true]
  exact ⟨trivial, trivial, trivial, trivial, fun _ => ⟨fun _ => ⟨fun _ => hk, fun h => by cases h⟩, fun h => by cases h⟩, fun h => by cases h⟩
end Go.Proofs.YtgbpjjinhjikeaaDoor

/- Cuts: the three laws return true. -/
namespace Go.Proofs.YtgbpjjinhjikeaaDoor
open Go.Vc

theorem allW_succ (t : Tr) (c : List Int) (k : Nat) : allW t c (k + 1) = (allW t c k && (!bitB (setE t c) (k : Int) || subB ((bef t).getD k 0) (setE t c))) := by
  unfold allW
  rw [List.range_succ, List.all_append]
  simp

theorem cw_vc (t : Tr) (c : List Int) (k : List Dat → Prop) (hk : k [⟨.bool, true⟩]) :
    vcF ⟨Et, [(24, cFact), (25, cIs), (26, cEvents), (13, cBefore), (27, cBit), (28, cSub)], glT, [], []⟩ (anCW t c) (Tryd.f5.body.getD .skip) Tryd.f5.ntmps [(.tmp 4, .bool)] [⟨tTr, t⟩, ⟨.sl I, c⟩] k := by
  rw [vcCW]
  refine ⟨trivial, (fun h => by cases h), fun _ => ⟨trivial, trivial, trivial, fun h => ?_, fun h => ⟨fun h' => ?_, fun _ => ⟨fun h' => ?_, fun _ => ?_⟩⟩⟩⟩
  · have h : cutE t c ≠ 0 := by simpa using h
    have e : setE t c = 0 := by unfold setE; rw [if_neg h]
    rw [if_neg h, e]
    exact ⟨fun _ => hk, fun h => by cases h⟩
  · rw [h] at h'; cases h'
  · have h : cutE t c = 0 := by simpa using h
    have := (cut_ok h).1
    rw [this] at h'
    exact absurd h' (by decide)
  · have h : cutE t c = 0 := by simpa using h
    obtain ⟨h1, h2, h3⟩ := cut_ok h
    have g := good_of h1
    have hl := g.len
    have hS : setE t c = (setN t c : Int) := by unfold setE; rw [if_pos h]
    have hbl := bef_len h1
    simp only [decide_eq_true_eq, decide_eq_false_iff_not, and_true, true_and, Bool.not_eq_true', Bool.not_eq_false', Int.toNat_natCast, hbl, h, if_true]
    have hadd : ∀ x : Nat, x < t.2.1.length → inK .i64 ((x : Int) + 1) := fun x hx => inK_i64.2 (by omega)
    have hall : ∀ x, x = t.2.1.length → (wholeB t c == allW t c x) = true := by
      rintro x rfl
      have : wholeB t c = true ↔ allW t c t.2.1.length = true := by
        rw [whole_before h1 c h]
        unfold allW
        rw [List.all_eq_true]
        constructor
        · intro hw i hi
          have hil := List.mem_range.1 hi
          rw [hS, bitB_nat, bef_at h1 hil, Bool.or_eq_true, subB_iff]
          cases hb : (setN t c).testBit i with
          | false => exact .inl rfl
          | true => exact .inr (hw i hil hb)
        · intro hw i hil hb
          have := hw i (List.mem_range.2 hil)
          rw [hS, bitB_nat, bef_at h1 hil, hb, Bool.not_true, Bool.false_or, subB_iff] at this
          exact this
      cases h1 : wholeB t c <;> cases h2 : allW t c t.2.1.length <;> simp_all
    refine ⟨fun hneg => absurd hneg (by omega), fun _ => ⟨fun hne => absurd trivial hne, fun _ => ⟨⟨0, by omega, rfl, rfl⟩, fun x hx => ⟨fun hlt => ⟨fun ha => ⟨fun hb => ⟨hadd x (by omega), x + 1, by omega, by omega, ?_, by omega⟩, fun hb => ⟨by omega, by omega, hadd x (by omega), x + 1, by omega, by omega, ?_, by omega⟩⟩, fun ha => ⟨hadd x (by omega), x + 1, by omega, by omega, ?_, by omega⟩⟩, fun hge => ?_⟩⟩⟩⟩
    · rw [allW_succ, ha, hb]; rfl
    · rw [allW_succ, ha, hb]; rfl
    · rw [allW_succ, ha]; rfl
    · rw [hall x (by omega)]
      exact hk

theorem mostC_succ (x y : List Int) (k : Nat) : mostC x y (k + 1) = mostC x y k ++ [if x.getD k 0 < y.getD k 0 then y.getD k 0 else x.getD k 0] := by
  unfold mostC
  rw [List.range_succ, List.map_append]; rfl
theorem leastC_succ (x y : List Int) (k : Nat) : leastC x y (k + 1) = leastC x y k ++ [if x.getD k 0 < y.getD k 0 then x.getD k 0 else y.getD k 0] := by
  unfold leastC
  rw [List.range_succ, List.map_append]; rfl
theorem mostC_len (x y : List Int) (k : Nat) : (mostC x y k).length = k := by simp [mostC]
theorem leastC_len (x y : List Int) (k : Nat) : (leastC x y k).length = k := by simp [leastC]
theorem mostC_at (x y : List Int) {k p : Nat} (h : p < k) : (mostC x y k).getD p 0 = if x.getD p 0 < y.getD p 0 then y.getD p 0 else x.getD p 0 := by
  unfold mostC
  rw [List.getD_eq_getElem?_getD, List.getElem?_map, List.getElem?_range h]; rfl
theorem leastC_at (x y : List Int) {k p : Nat} (h : p < k) : (leastC x y k).getD p 0 = if x.getD p 0 < y.getD p 0 then x.getD p 0 else y.getD p 0 := by
  unfold leastC
  rw [List.getD_eq_getElem?_getD, List.getElem?_map, List.getElem?_range h]; rfl

theorem cl_vc (t : Tr) (c d : List Int) (k : List Dat → Prop) (hk : k [⟨.bool, true⟩]) :
    vcF ⟨Et, [(24, cFact), (25, cIs), (29, cLine)], glT, [], []⟩ anCL (Tryd.f6.body.getD .skip) Tryd.f6.ntmps [(.tmp 6, .bool)] [⟨tTr, t⟩, ⟨.sl I, c⟩, ⟨.sl I, d⟩] k := by
  rw [vcCL]
  refine ⟨trivial, (fun h => by cases h), fun _ l hlc hlx m hmc hmx => ⟨fun h => ?_, fun hc => ⟨fun h => ?_, fun hd => ?_⟩⟩⟩
  · have hc : cutE t c ≠ 0 := by simpa using h
    have e := hlx hc
    subst e
    exact ⟨fun _ => hk, fun h => absurd h (by decide)⟩
  · have hd : cutE t d ≠ 0 := by simpa using h
    have e := hmx hd
    subst e
    exact ⟨fun _ => hk, fun _ => hk⟩
  · have hl := hlc (by simpa using hc)
    have hm := hmc (by simpa using hd)
    have hwl : wholeP t l := ⟨hl.1.1, hl.2⟩
    have hwm : wholeP t m := ⟨hm.1.1, hm.2⟩
    obtain ⟨a1, a2, a3⟩ := cut_ok hl.1.1
    obtain ⟨b1, b2, b3⟩ := cut_ok hm.1.1
    have hpr := (good_of a1).procs
    have h1l : ∀ v : Int, ((List.replicate 1 (0 : Int)).set 0 v) = [v] := fun v => rfl
    have happ : ∀ a b : List Int, a.append b = a ++ b := fun _ _ => rfl
    simp only [decide_eq_true_eq, decide_eq_false_iff_not, and_true, true_and, Bool.not_eq_true', Bool.not_eq_false', Int.toNat_natCast, h1l, happ]
    refine ⟨fun h => absurd a2 h, fun _ => ⟨fun h => absurd b2 h, fun _ => ⟨⟨(0, [], []), ⟨by omega, by omega, by omega, rfl, rfl⟩, rfl, rfl, rfl⟩, fun x ⟨x1, x2, x3, x4, x5⟩ => ⟨fun hlt => ?_, fun hge => ?_⟩⟩⟩⟩
    · obtain ⟨p, u, v⟩ := x
      simp only at *
      have hul : u.length = p := by rw [x4]; exact mostC_len _ _ _
      have hvl : v.length = p := by rw [x5]; exact leastC_len _ _ _
      refine ⟨⟨by omega, by omega, by omega, by omega⟩, fun hl2 => ⟨by omega, by omega, by simp only [List.length_cons, List.length_nil]; omega, by omega, by omega, by simp only [List.length_cons, List.length_nil]; omega, inK_i64.2 (by omega), (p + 1, u ++ [m.getD p 0], v ++ [l.getD p 0]), ⟨by simp only; omega, x2, x3, ?_, ?_⟩, by simp only; omega, by simp only; omega, rfl, rfl⟩,
        fun hl2 => ⟨by omega, by omega, by simp only [List.length_cons, List.length_nil]; omega, by omega, by omega, by simp only [List.length_cons, List.length_nil]; omega, inK_i64.2 (by omega), (p + 1, u ++ [l.getD p 0], v ++ [m.getD p 0]), ⟨by simp only; omega, x2, x3, ?_, ?_⟩, by simp only; omega, by simp only; omega, rfl, rfl⟩⟩
      · rw [mostC_succ, if_pos hl2, x4]
      · rw [leastC_succ, if_pos hl2, x5]
      · rw [mostC_succ, if_neg hl2, x4]
      · rw [leastC_succ, if_neg hl2, x5]
    · have hx : x.1 = l.length := by omega
      rw [hx] at x4 x5
      have w1 : wholeP t x.2.1 := whole_max hwl hwm (by rw [x4]; exact mostC_len _ _ _) fun p hp => by rw [x4]; exact mostC_at _ _ hp
      have w2 : wholeP t x.2.2 := whole_min hwl hwm (by rw [x5]; exact leastC_len _ _ _) fun p hp => by rw [x5]; exact leastC_at _ _ hp
      simp only [w1.1, w1.2, w2.1, w2.2, if_true]
      exact ⟨fun _ => ⟨fun _ => ⟨fun _ => hk, fun h => absurd trivial h⟩, fun h => by cases h⟩, fun h => absurd trivial h⟩

theorem cn_vc (t : Tr) (c d : List Int) (k : List Dat → Prop) (hk : k [⟨.bool, true⟩]) :
    vcF ⟨Et, [(24, cFact), (25, cIs), (29, cLine)], glT, [], []⟩ anCN (Tryd.f7.body.getD .skip) Tryd.f7.ntmps [(.tmp 6, .bool)] [⟨tTr, t⟩, ⟨.sl I, c⟩, ⟨.sl I, d⟩] k := by
  rw [vcCN]
  simp only [Nat.le_eq]
  refine ⟨trivial, (fun h => by cases h), fun _ l hlc hlx => ⟨fun h => ?_, fun hc => ⟨trivial, ?_⟩⟩⟩
  · have hc : cutE t c ≠ 0 := by simpa using h
    have e := hlx hc
    subst e
    exact hk
  · have hl := hlc (by simpa using hc)
    obtain ⟨a1, a2, a3⟩ := cut_ok hl.1.1
    have hpr := (good_of a1).procs
    have hlc := hl.1.2.1
    simp only [hl.1.1, hl.2, decide_eq_true_eq, decide_eq_false_iff_not, and_true, true_and, Bool.not_eq_true', Bool.not_eq_false', Int.toNat_natCast, if_true]
    refine ⟨fun h => absurd trivial h, fun _ => ⟨(fun h => by cases h), fun _ => ⟨fun h => absurd hlc.1 (by omega), fun _ => ⟨⟨0, by omega, by omega⟩, fun x hx => ⟨fun hlt => ⟨⟨by omega, by omega, by omega, by have := hlc.1; omega⟩, fun h => ?_, fun h => ⟨inK_i64.2 (by omega), x + 1, by omega, by omega, by omega⟩⟩, fun hge => ?_⟩⟩⟩⟩⟩
    · have := hlc.2 x (by omega)
      omega
    · refine ⟨fun _ => hk, fun hd => ⟨fun _ => hk, fun hw => ⟨fun _ => hk, fun hdl => ⟨⟨0, ⟨by omega, fun p hp => by omega⟩, by omega⟩, fun y ⟨hy, hall⟩ => ⟨fun hlt => ⟨⟨by omega, by omega, by omega, by omega⟩, fun _ => hk, fun h => ⟨inK_i64.2 (by omega), y + 1, ⟨by omega, fun p hp => ?_⟩, by have := hlc.1; omega, by omega⟩⟩, fun hge2 => ?_⟩⟩⟩⟩⟩
      · rcases Nat.lt_or_ge p y with hpy | hpy
        · exact hall p hpy
        · have : p = y := by omega
          subst this; omega
      · rw [if_pos hd] at hw
        have hle : leC d l := hl.1.2.2 d ⟨hd, hw⟩ ⟨by omega, fun p hp => hall p (by omega)⟩
        refine ⟨⟨0, by omega, by omega⟩, fun z hz => ⟨fun hlt => ⟨⟨by omega, by omega, by omega, by have := hle.1; omega⟩, fun h => ?_, fun h => ⟨inK_i64.2 (by omega), z + 1, by omega, by have := hle.1; omega, by omega⟩⟩, fun _ => hk⟩⟩
        have := hle.2 z (by omega)
        omega

theorem okCW : PlainOk Tryd.prog glT 5 cTrue2 := by
  refine plain_of (CxOk.mk' Et_ok rfl mixed (gl := glT) (GOk.cons okFact Tryd.func24 (by kernel_rfl) (by kernel_rfl) (GOk.cons okIs Tryd.func25 (by kernel_rfl) (by kernel_rfl) (GOk.cons okEvents Tryd.func26 (by kernel_rfl) (by kernel_rfl) (GOk.cons okBefore Tryd.func13 (by kernel_rfl) (by kernel_rfl) (GOk.cons okBit Tryd.func27 (by kernel_rfl) (by kernel_rfl) (GOk.cons okSub Tryd.func28 (by kernel_rfl) (by kernel_rfl) GOk.nil)))))) GoOk.nil noIt) Tryd.func5 (c := Tryd.f5.body.getD .skip) (rvs := [(.tmp 4, .bool)]) (by kernel_rfl) (by kernel_rfl) (by kernel_rfl) ?_
  intro ds k ⟨hp, hk⟩ hwf
  obtain ⟨t, c, rfl, -⟩ := dest2 hp
  exact ⟨anCW t c, cw_vc t c k hk⟩
theorem okCL : PlainOk Tryd.prog glT 6 cTrue3 := by
  refine plain_of (CxOk.mk' Et_ok rfl mixed (gl := glT) (GOk.cons okFact Tryd.func24 (by kernel_rfl) (by kernel_rfl) (GOk.cons okIs Tryd.func25 (by kernel_rfl) (by kernel_rfl) (GOk.cons okLine Tryd.func29 (by kernel_rfl) (by kernel_rfl) GOk.nil))) GoOk.nil noIt) Tryd.func6 (c := Tryd.f6.body.getD .skip) (rvs := [(.tmp 6, .bool)]) (by kernel_rfl) (by kernel_rfl) (by kernel_rfl) ?_
  intro ds k ⟨hp, hk⟩ hwf
  obtain ⟨t, c, d, rfl, -⟩ := dest3 hp
  exact ⟨anCL, cl_vc t c d k hk⟩
theorem okCN : PlainOk Tryd.prog glT 7 cTrue3 := by
  refine plain_of (CxOk.mk' Et_ok rfl mixed (gl := glT) (GOk.cons okFact Tryd.func24 (by kernel_rfl) (by kernel_rfl) (GOk.cons okIs Tryd.func25 (by kernel_rfl) (by kernel_rfl) (GOk.cons okLine Tryd.func29 (by kernel_rfl) (by kernel_rfl) GOk.nil))) GoOk.nil noIt) Tryd.func7 (c := Tryd.f7.body.getD .skip) (rvs := [(.tmp 6, .bool)]) (by kernel_rfl) (by kernel_rfl) (by kernel_rfl) ?_
  intro ds k ⟨hp, hk⟩ hwf
  obtain ⟨t, c, d, rfl, -⟩ := dest3 hp
  exact ⟨anCN, cn_vc t c d k hk⟩
end Go.Proofs.YtgbpjjinhjikeaaDoor

/- The library's table, as the cards list it, lies in its variable. -/
namespace Go.Proofs.YtgbpjjinhjikeaaDoor
open Go.Vc
def Eg : Env := { tys := [(121, .ar 64 (.int .u8))], errT := 63, eqs := [], els := [] }
theorem Eg_ok : EnvOk Tryd.prog Eg := EnvOk.of_list (by kernel_rfl) (by kernel_rfl) (by kernel_rfl)
theorem glOk {W : World} (h : laidMetH Tryd.prog Rows.cutWholeRow.laid W) : GlOk glT W fun b => b < W.heap.size :=
  gl_of_laid Eg_ok (n := "math/bits.deBruijn64tab") (T := 121) (by kernel_rfl) h (.tail _ (.head _)) (by kernel_rfl) (by kernel_rfl) (by kernel_rfl) (by decide)
end Go.Proofs.YtgbpjjinhjikeaaDoor
