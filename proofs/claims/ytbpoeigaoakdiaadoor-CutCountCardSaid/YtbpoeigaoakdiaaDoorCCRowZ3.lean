/- Own texts, merged: XM, XV, QV1, QV2, QOk, XOk. -/
import Derived.Test.YtbpoeigaoakdiaaDoorCCRowZ2
import Derived.Test.YtbpoeigaoakdiaaDoorVcPA
/- Cuts: the document's answers are the program's: the facts. -/
namespace Go.Proofs.YtbpoeigaoakdiaaDoor.H
open Go.Vc

theorem ofU_cnt {l : List Ev} (g : Gd l) (p : Nat) : ∀ k, k ≤ l.length → (ofU l (p : Int) k).length = cntP l p k
  | 0, _ => rfl
  | k + 1, hk => by
    have ih := ofU_cnt g p k (by omega)
    have hn := g.n k (by omega)
    rw [ofU_succ, List.length_append, ih]
    have e : (l.getD k (0, 0, ())).1 = (p : Int) ↔ prc l k = p := by
      unfold prc
      unfold evA at hn
      omega
    simp only [cntP]
    by_cases h : prc l k = p
    · rw [if_pos (e.2 h), if_pos h]; rfl
    · rw [if_neg (fun x => h (e.1 x)), if_neg h]; rfl
theorem lenT_cnt {t : Tr} (h : chk t = 0) (p : Nat) : lenT t p = cntP t.2.1 p t.2.1.length := ofU_cnt (gd_of h) p _ (Nat.le_refl _)
theorem rank_at {t : Tr} (h : chk t = 0) {m : Nat} (hm : m < t.2.1.length) : (ofT t (prc t.2.1 m : Int)).getD (cntP t.2.1 (prc t.2.1 m) m) 0 = (m : Int) ∧ cntP t.2.1 (prc t.2.1 m) m < lenT t (prc t.2.1 m) := by
  have g := gd_of h
  have hc := ofU_cnt g (prc t.2.1 m) m (by omega)
  obtain ⟨r, e⟩ := ofU_add t.2.1 (prc t.2.1 m : Int) (t.2.1.length - (m + 1)) (m + 1)
  rw [show m + 1 + (t.2.1.length - (m + 1)) = t.2.1.length by omega, ofU_succ] at e
  have hn := g.n m hm
  rw [if_pos (by unfold prc; unfold evA at hn; omega), List.append_assoc] at e
  have e' : ofT t (prc t.2.1 m : Int) = ofU t.2.1 (prc t.2.1 m : Int) m ++ ([(m : Int)] ++ r) := e
  unfold lenT
  rw [e', ← hc]
  refine ⟨?_, by simp⟩
  rw [List.getD_eq_getElem?_getD, List.getElem?_append_right (Nat.le_refl _), Nat.sub_self]
  rfl
/-- which events a cut has -/
theorem in_iff {t : Tr} {c : List Int} (hc : cutE t c = 0) {m : Nat} (hm : m < t.2.1.length) : (setN t c).testBit m = true ↔ (cntP t.2.1 (prc t.2.1 m) m : Int) < c.getD (prc t.2.1 m) 0 := by
  obtain ⟨h, hl, hb⟩ := cut_ok hc
  have gg := good_of h
  obtain ⟨r1, r2⟩ := rank_at h hm
  have hev := gg.ev m hm
  have hpl : prc t.2.1 m < c.length := by unfold prc; omega
  rw [setN_bit]
  constructor
  · rintro ⟨p, hp, hx⟩
    have hx2 := (takeC_mem hx).2.2
    rw [Int.toNat_natCast] at hx2
    have hpe : p = prc t.2.1 m := by unfold prc; omega
    subst hpe
    obtain ⟨n, n1, n2, n3⟩ := takeC_iff.1 hx
    rcases Nat.lt_trichotomy n (cntP t.2.1 (prc t.2.1 m) m) with hlt | heq | hgt
    · have := ofT_mono (t := t) hlt r2
      omega
    · omega
    · have := ofT_mono (t := t) hgt n1
      omega
  · intro hlt
    exact ⟨prc t.2.1 m, hpl, takeC_iff.2 ⟨_, r2, by omega, r1.symm⟩⟩
theorem set_len {t : Tr} {c : List Int} {m : Nat} (h : (setN t c).testBit m = true) : m < t.2.1.length := by
  obtain ⟨p, _, hx⟩ := (setN_bit t c m).1 h
  have := (takeC_mem hx).2.1
  omega
theorem inC_iff {t : Tr} {c : List Int} (hc : cutE t c = 0) {m : Nat} (hm : m < t.2.1.length) : inC t c m = true ↔ (setN t c).testBit m = true := by
  rw [in_iff hc hm]
  unfold inC
  rw [decide_eq_true_eq, nth_cnt (gd_of (cut_ok hc).1) hm]
  rfl

/-! The events of a cut. -/
theorem setI_spec {t : Tr} {c : List Int} : ∀ m, ∃ s : Nat, setI t c m = (s : Int) ∧ s < 2 ^ m ∧ ∀ k, s.testBit k = true ↔ k < m ∧ inC t c k = true
  | 0 => ⟨0, rfl, by simp, fun k => by simp⟩
  | m + 1 => by
    obtain ⟨s, e, hs, hb⟩ := setI_spec (t := t) (c := c) m
    have hpw : 2 ^ m < 2 ^ (m + 1) := Nat.pow_lt_pow_right (by decide) (by omega)
    by_cases h : inC t c m = true
    · have hf : s.testBit m = false := by
        cases hh : s.testBit m with
        | false => rfl
        | true => have := ((hb m).1 hh).1; omega
      refine ⟨s ||| 2 ^ m, ?_, Nat.or_lt_two_pow (by omega) hpw, fun k => ?_⟩
      · rw [setI, if_pos h, e, or_pow_out hf, Int.natCast_add, Int.natCast_pow]; rfl
      · rw [bit_or2, hb]
        constructor
        · rintro (⟨h1, h2⟩ | h1)
          · exact ⟨by omega, h2⟩
          · subst h1; exact ⟨by omega, h⟩
        · rintro ⟨h1, h2⟩
          by_cases hk : k = m
          · exact .inr hk
          · exact .inl ⟨by omega, h2⟩
    · refine ⟨s, by rw [setI, if_neg h, e], by omega, fun k => ?_⟩
      rw [hb]
      constructor
      · rintro ⟨h1, h2⟩; exact ⟨by omega, h2⟩
      · rintro ⟨h1, h2⟩
        by_cases hk : k = m
        · subst hk; exact absurd h2 h
        · exact ⟨by omega, h2⟩
theorem setI_all {t : Tr} {c : List Int} (hc : cutE t c = 0) : setI t c t.2.1.length = (setN t c : Int) := by
  obtain ⟨s, e, _, hb⟩ := setI_spec (t := t) (c := c) t.2.1.length
  rw [e]
  have : s = setN t c := by
    refine Nat.eq_of_testBit_eq fun k => ?_
    have key : s.testBit k = true ↔ (setN t c).testBit k = true := by
      rw [hb]
      constructor
      · rintro ⟨h1, h2⟩; exact (inC_iff hc h1).1 h2
      · intro h1; exact ⟨set_len h1, (inC_iff hc (set_len h1)).2 h1⟩
    cases h1 : s.testBit k <;> cases h2 : (setN t c).testBit k <;> simp_all
  rw [this]
theorem whole_from {t : Tr} {c : List Int} (hc : cutE t c = 0) : wholeB t c = true ↔ ∀ m, m < t.2.1.length → fromB t (setN t c : Int) m = true := by
  obtain ⟨h, hl, _⟩ := cut_ok hc
  have gg := good_of h
  have hfb : ∀ m, m < t.2.1.length → (fromB t (setN t c : Int) m = true ↔ ((setN t c).testBit m = true → heard t.2.1 (setN t c) (m : Int) = true)) := by
    intro m hm
    unfold fromB
    rw [bitB_nat, heard_iff, Int.toNat_natCast, Bool.or_eq_true, Bool.or_eq_true, Bool.not_eq_true', decide_eq_true_eq]
    unfold evA
    by_cases hf : (t.2.1.getD m (0, 0, ())).2.1 < 0
    · constructor
      · intro _ _ h0; omega
      · intro _; exact .inr (.inl hf)
    · have e : ((t.2.1.getD m (0, 0, ())).2.1.toNat : Int) = (t.2.1.getD m (0, 0, ())).2.1 := by omega
      rw [← e, bitB_nat, Int.toNat_natCast, e]
      cases hb : (setN t c).testBit m with
      | false => simp
      | true =>
        constructor
        · rintro (h1 | h1 | h1) _ _
          · cases h1
          · omega
          · exact h1
        · intro h1; exact .inr (.inr (h1 rfl (by omega)))
  rw [whole_iff h]
  constructor
  · intro hf m hm
    rw [hfb m hm]
    intro hb
    obtain ⟨p, hp, hx⟩ := (setN_bit t c m).1 hb
    exact hf p hp _ hx
  · intro hf p hp y hy
    have hm := takeC_mem hy
    have e : ((y.toNat : Nat) : Int) = y := by omega
    have := (hfb y.toNat (by omega)).1 (hf y.toNat (by omega)) ((setN_bit t c y.toNat).2 ⟨p, hp, by rw [e]; exact hy⟩)
    rw [e] at this
    exact this

/-! The line: what is in it is in the cut, with all that happened before. -/
def dC (t : Tr) (i : Nat) : List Int := (vec t.2.1 i).take t.1.toNat
theorem dC_at {t : Tr} {i p : Nat} (h : p < t.1.toNat) : (dC t i).getD p 0 = V t.2.1 i p := by unfold dC V; exact getD_take h
theorem dC_cut {t : Tr} (h : chk t = 0) {i : Nat} (hi : i < t.2.1.length) : cutE t (dC t i) = 0 := by
  have g := gd_of h
  have hpr := (good_of h).procs
  have hlen : (dC t i).length = t.1.toNat := by unfold dC; rw [List.length_take, vec_len g hi]; omega
  refine cut_mk h (by rw [hlen]; omega) fun p hp => ?_
  rw [hlen] at hp
  rw [dC_at hp, ← cntU_eq g hi (by omega), cntU_min g hi _ (Nat.le_refl _)]
  have h1 := V_nonneg g.p g.f hi p
  have h2 := cntP_mono t.2.1 p (i := i + 1) (j := t.2.1.length) (by omega)
  have h3 := lenT_cnt h p
  unfold lenT at h3
  omega
theorem dC_set {t : Tr} (h : chk t = 0) {i k : Nat} (hi : i < t.2.1.length) (hk : k < t.2.1.length) : (setN t (dC t i)).testBit k = true ↔ (k = i ∨ (bB t.2.1 i).testBit k = true) := by
  have g := gd_of h
  have gg := good_of h
  have hpr := gg.procs
  have hev := gg.ev k hk
  rw [in_iff (dC_cut h hi) hk, dC_at (by unfold prc; omega), ← V_iff g.p g.f hk hi, V_rank g hk]
  omega
theorem lnB_iff {t : Tr} {c : List Int} {m : Nat} (hm : m < t.2.1.length) : lnB t c m = true ↔ (setN t c).testBit m = true ∧ ∀ k, (bB t.2.1 m).testBit k = true → (setN t c).testBit k = true := by
  unfold lnB
  rw [bitB_nat, bef_at hm, Bool.and_eq_true, subB_iff]
theorem line_set {t : Tr} {c l : List Int} (hl : lineP t c l) {m : Nat} (hm : m < t.2.1.length) : lnB t c m = true ↔ (setN t l).testBit m = true := by
  obtain ⟨⟨h1, h2, h3⟩, h4⟩ := hl
  obtain ⟨h, hll, hlb⟩ := cut_ok h1
  have g := gd_of h
  have gg := good_of h
  have hpr := gg.procs
  rw [lnB_iff hm]
  constructor
  · rintro ⟨a, b⟩
    have hd := dC_cut h hm
    have hdw : wholeP t (dC t m) := by
      refine ⟨hd, (whole_before h _ hd).2 fun i hi hb k hk => ?_⟩
      have hkl := bB_less g.p g.f hi hk
      rw [dC_set h hm hi] at hb
      rw [dC_set h hm (by omega)]
      rcases hb with rfl | hb
      · exact .inr hk
      · exact .inr (bB_trans g.p g.f hm hb hk)
    have hdl : (dC t m).length = t.1.toNat := by have := (cut_ok hd).2.1; omega
    have hcl : c.length = t.1.toNat := by have := h2.1; omega
    have hle : leC (dC t m) c := by
      refine ⟨by omega, fun p hp => ?_⟩
      rw [hdl] at hp
      rw [dC_at hp]
      have hcp : 0 ≤ c.getD p 0 := by have := h2.2 p (by omega); have := hlb p (by omega); omega
      rcases V_from g.p g.f hm (q := p) (by omega) with h0 | ⟨k, hk, hkp, hkm, hV⟩
      · omega
      · have hks : (setN t c).testBit k = true := by
          rcases hkm with rfl | hb
          · exact a
          · exact b k hb
        have hr := V_rank g hk
        rw [hkp] at hr
        obtain ⟨q, hq, hx⟩ := (setN_bit t c k).1 hks
        have hx2 := (takeC_mem hx).2.2
        rw [Int.toNat_natCast] at hx2
        have hqp : q = p := by rw [← hkp]; unfold prc; omega
        subst hqp
        obtain ⟨n, n1, n2, n3⟩ := takeC_iff.1 hx
        have r := rank_at h hk
        rw [hkp] at r
        rcases Nat.lt_trichotomy n (cntP t.2.1 q k) with hlt | heq | hgt
        · have := ofT_mono (t := t) hlt r.2; omega
        · omega
        · omega
    have hdl2 := h3 _ hdw hle
    exact setN_le hdl2 ((dC_set h hm hm).2 (.inl rfl))
  · intro hb
    exact ⟨setN_le h2 hb, fun k hk => setN_le h2 ((whole_before h l h1).1 h4 m hm hb k hk)⟩
theorem lnU_min {t : Tr} {c l : List Int} (hl : lineP t c l) {p : Nat} (hp : p < t.1.toNat) : ∀ m, m ≤ t.2.1.length → lnU t c p m = min (cntP t.2.1 p m : Int) (l.getD p 0)
  | 0, _ => by
    obtain ⟨h, hll, hlb⟩ := cut_ok hl.1.1
    have := hlb p (by omega)
    show (0 : Int) = min ((0 : Nat) : Int) _
    omega
  | m + 1, hm => by
    have ih := lnU_min hl hp m (by omega)
    have hs := line_set hl (m := m) (by omega)
    have hi := in_iff hl.1.1 (m := m) (by omega)
    unfold lnU
    by_cases hq : prc t.2.1 m = p
    · rw [hq] at hi
      rw [cntP_step hq]
      by_cases hb : lnB t c m = true
      · rw [if_pos ⟨hb, hq⟩, ih]
        have := hi.1 (hs.1 hb)
        omega
      · rw [if_neg (fun e => hb e.1), ih]
        have : ¬ ((cntP t.2.1 p m : Int) < l.getD p 0) := fun e => hb (hs.2 (hi.2 e))
        omega
    · rw [if_neg (fun e => hq e.2), ih]
      have : cntP t.2.1 p (m + 1) = cntP t.2.1 p m := by simp only [cntP]; rw [if_neg hq]
      rw [this]
theorem lnR_len (t : Tr) (c : List Int) (m : Nat) : (lnR t c m).length = t.1.toNat := by simp [lnR]
theorem lnR_at {t : Tr} {c : List Int} {m p : Nat} (h : p < t.1.toNat) : (lnR t c m).getD p 0 = lnU t c p m := by
  unfold lnR
  rw [List.getD_eq_getElem?_getD, List.getElem?_map, List.getElem?_range h]; rfl
theorem line_eq {t : Tr} {c l : List Int} (hl : lineP t c l) : l = lineR t c := by
  obtain ⟨h, hll, hlb⟩ := cut_ok hl.1.1
  refine List.ext_getElem (by unfold lineR; rw [lnR_len]; omega) fun p h1 h2 => ?_
  have a := lnU_min hl (p := p) (by omega) _ (Nat.le_refl _)
  have b := lnR_at (t := t) (c := c) (m := t.2.1.length) (p := p) (by omega)
  have d := hlb p h1
  have e := lenT_cnt h p
  unfold lenT at e
  have f : l.getD p 0 = l[p] := by rw [List.getD_eq_getElem?_getD, List.getElem?_eq_getElem h1]; rfl
  have g : (lineR t c).getD p 0 = (lineR t c)[p] := by rw [List.getD_eq_getElem?_getD, List.getElem?_eq_getElem h2]; rfl
  rw [← f, ← g]
  unfold lineR
  rw [b, a]
  omega
theorem lnR_in {t : Tr} {c : List Int} {m : Nat} (hb : lnB t c m = true) (hp : prc t.2.1 m < t.1.toNat) : (lnR t c m).set (prc t.2.1 m) ((lnR t c m).getD (prc t.2.1 m) 0 + 1) = lnR t c (m + 1) := by
  rw [lnR_at hp]
  refine List.ext_getElem (by simp [lnR]) fun q h1 h2 => ?_
  simp only [lnR, List.getElem_set, List.getElem_map, List.getElem_range, lnU]
  by_cases h : prc t.2.1 m = q
  · subst h; rw [if_pos rfl, if_pos ⟨hb, rfl⟩]
  · rw [if_neg h, if_neg (fun e => h e.2)]
theorem lnR_out {t : Tr} {c : List Int} {m : Nat} (hb : ¬ lnB t c m = true) : lnR t c m = lnR t c (m + 1) := by
  unfold lnR
  refine List.map_congr_left fun q _ => ?_
  rw [lnU, if_neg (fun e => hb e.1)]
theorem lnU_le (t : Tr) (c : List Int) (p : Nat) : ∀ m, 0 ≤ lnU t c p m ∧ lnU t c p m ≤ (m : Int)
  | 0 => ⟨Int.le_refl _, Int.le_refl _⟩
  | m + 1 => by
    have := lnU_le t c p m
    unfold lnU
    split <;> omega
/-- the products -/
theorem prodU_L (t : Tr) : ∀ d p : Nat, prodU t p * prodL t d p = prodU t (p + d)
  | 0, p => by rw [prodL, Nat.mul_one]; rfl
  | d + 1, p => by
    have ih := prodU_L t d (p + 1)
    rw [prodL, ← Nat.mul_assoc]
    rw [show p + (d + 1) = p + 1 + d by omega, ← ih]
    rfl
theorem prodU_le {t : Tr} (h : chk t = 0) : ∀ p : Nat, prodU t p ≤ 25 ^ p
  | 0 => Nat.le_refl _
  | p + 1 => by
    have := prodU_le h p
    have := lenT_le h p
    rw [prodU, Nat.pow_succ]
    exact Nat.mul_le_mul (by assumption) (by omega)
theorem sum_range_le (f : Nat → Nat) {a b : Nat} (h : a ≤ b) : ((List.range a).map f).sum ≤ ((List.range b).map f).sum := by
  induction b with
  | zero => rw [Nat.le_zero.1 h]; exact Nat.le_refl _
  | succ b ih =>
    by_cases hb : a = b + 1
    · rw [hb]; exact Nat.le_refl _
    · rw [List.range_succ, List.map_append, List.sum_append]
      have := ih (by omega)
      omega
theorem cutsU_succ (t : Tr) (c : List Int) (d k : Nat) : cutsU t c d (k + 1) = cutsU t c d k + cutsN t d (c ++ [((k : Nat) : Int)]) := by
  unfold cutsU
  rw [List.range_succ, List.map_append, List.sum_append]; simp
theorem cutsU_all (t : Tr) (c : List Int) (d : Nat) : cutsU t c d (lenT t c.length + 1) = cutsN t (d + 1) c := (cutsN_succ t d c).symm
theorem cutsN_le {t : Tr} (h : chk t = 0) (d : Nat) (c : List Int) : cutsN t d c ≤ 25 ^ d := by
  unfold cutsN
  refine Nat.le_trans (List.length_filter_le _ _) ?_
  rw [allL_len]
  exact prodL_le h d _
theorem cutsU_le {t : Tr} (h : chk t = 0) (c : List Int) (d : Nat) {k : Nat} (hk : k ≤ lenT t c.length + 1) : cutsU t c d k ≤ 25 ^ (d + 1) := by
  refine Nat.le_trans (sum_range_le _ hk) ?_
  rw [show ((List.range (lenT t c.length + 1)).map fun j => cutsN t d (c ++ [((j : Nat) : Int)])).sum = cutsU t c d (lenT t c.length + 1) from rfl, cutsU_all]
  exact cutsN_le h _ _
end Go.Proofs.YtbpoeigaoakdiaaDoor.H

/- What the functions of this seat have to satisfy, by program: each verification condition in plain words. -/
namespace Go.Proofs.YtbpoeigaoakdiaaDoor
open Go.Vc H
set_option linter.unusedVariables false
theorem vcRSet (t : Tr) (c : List Int) (k : List Dat → Prop) : vcF ⟨Ez, [(47, cNth), (56, cPow2)], [], [], []⟩ (anRSet t c) (Tryd.f28.body.getD .skip) Tryd.f28.ntmps [(.tmp 4, I)] [⟨tTr, t⟩, ⟨.sl I, c⟩] k = (
  (∃ (x : Nat), (x ≤ t.snd.fst.length ∧ True) ∧ (c = c ∧ ([] : List Nat) = [] ∧ (0 : Int) = setI t c x ∧ (0 : Int) = (↑x : Int) ∧ True) ∧ (((24 : Nat) = (24 : Nat) ∧ t = t) ∧ True) ∧ True) ∧ ∀ (x : Nat), x ≤ t.snd.fst.length ∧ True → (decide ((↑x : Int) < (↑(List.length t.snd.fst) : Int)) = true → (((0 : Int) ≤ (↑x : Int) ∧ (↑x : Int) < (↑t.snd.fst.length : Int)) ∧ (0 : Int) ≤ (↑x : Int) ∧ (↑x : Int) < (↑(List.length t.snd.fst) : Int) ∧ (0 : Int) ≤ (List.getD t.snd.fst (↑x : Int).toNat ((0 : Int), (0 : Int), ())).fst ∧ (List.getD t.snd.fst (↑x : Int).toNat ((0 : Int), (0 : Int), ())).fst < (↑c.length : Int) ∧ True) ∧ (decide ((↑(nth t.snd.fst (↑x : Int).toNat) : Int) < c.getD (Int.toNat (List.getD t.snd.fst (↑x : Int).toNat ((0 : Int), (0 : Int), ())).fst) (0 : Int)) = true → ((↑x : Int) ≤ (61 : Int) ∧ True) ∧ inK IntKind.i64 (setI t c x + (2 : Int) ^ (↑x : Int).toNat) ∧ inK IntKind.i64 ((↑x : Int) + (1 : Int)) ∧ ∃ (x_1 : Nat), (x_1 ≤ t.snd.fst.length ∧ True) ∧ t.snd.fst.length - x_1 < t.snd.fst.length - x ∧ (c = c ∧ ([] : List Nat) = [] ∧ setI t c x + (2 : Int) ^ (↑x : Int).toNat = setI t c x_1 ∧ (↑x : Int) + (1 : Int) = (↑x_1 : Int) ∧ True) ∧ (((24 : Nat) = (24 : Nat) ∧ t = t) ∧ True) ∧ True) ∧ (decide ((↑(nth t.snd.fst (↑x : Int).toNat) : Int) < c.getD (Int.toNat (List.getD t.snd.fst (↑x : Int).toNat ((0 : Int), (0 : Int), ())).fst) (0 : Int)) = false → inK IntKind.i64 ((↑x : Int) + (1 : Int)) ∧ ∃ (x_1 : Nat), (x_1 ≤ t.snd.fst.length ∧ True) ∧ t.snd.fst.length - x_1 < t.snd.fst.length - x ∧ (c = c ∧ ([] : List Nat) = [] ∧ setI t c x = setI t c x_1 ∧ (↑x : Int) + (1 : Int) = (↑x_1 : Int) ∧ True) ∧ (((24 : Nat) = (24 : Nat) ∧ t = t) ∧ True) ∧ True)) ∧ (decide ((↑x : Int) < (↑(List.length t.snd.fst) : Int)) = false → k [Dat.mk (I) (setI t c x)])) := by kernel_rfl
theorem vcRWhole (t : Tr) (c : List Int) (k : List Dat → Prop) : vcF ⟨Ez, [(28, cRSet), (49, cBit)], [], [], []⟩ (anRWhole t c) (Tryd.f29.body.getD .skip) Tryd.f29.ntmps [(.tmp 4, .bool)] [⟨tTr, t⟩, ⟨.sl I, c⟩] k = (
  (cutE t c = (0 : Int) ∧ True) ∧ (∃ (x : Nat), (x ≤ t.snd.fst.length ∧ ∀ (m : Nat), m < x → fromB t (↑(setN t c) : Int) m = true) ∧ (([] : List Nat) = [] ∧ (↑(setN t c) : Int) = (↑(setN t c) : Int) ∧ (0 : Int) = (↑x : Int) ∧ True) ∧ (((24 : Nat) = (24 : Nat) ∧ t = t) ∧ True) ∧ True) ∧ ∀ (x : Nat), (x ≤ t.snd.fst.length ∧ ∀ (m : Nat), m < x → fromB t (↑(setN t c) : Int) m = true) → (decide ((↑x : Int) < (↑(List.length t.snd.fst) : Int)) = true → True ∧ (bitB (↑(setN t c) : Int) (↑x : Int) = true → (0 : Int) ≤ (↑x : Int) ∧ (↑x : Int) < (↑(List.length t.snd.fst) : Int) ∧ (decide ((0 : Int) ≤ (List.getD t.snd.fst (↑x : Int).toNat ((0 : Int), (0 : Int), ())).snd.fst) = true → (0 : Int) ≤ (↑x : Int) ∧ (↑x : Int) < (↑(List.length t.snd.fst) : Int) ∧ True ∧ ((!bitB (↑(setN t c) : Int) (List.getD t.snd.fst (↑x : Int).toNat ((0 : Int), (0 : Int), ())).snd.fst) = true → k [Dat.mk Ty.bool false]) ∧ ((!bitB (↑(setN t c) : Int) (List.getD t.snd.fst (↑x : Int).toNat ((0 : Int), (0 : Int), ())).snd.fst) = false → inK IntKind.i64 ((↑x : Int) + (1 : Int)) ∧ ∃ (x_1 : Nat), (x_1 ≤ t.snd.fst.length ∧ ∀ (m : Nat), m < x_1 → fromB t (↑(setN t c) : Int) m = true) ∧ t.snd.fst.length - x_1 < t.snd.fst.length - x ∧ (([] : List Nat) = [] ∧ (↑(setN t c) : Int) = (↑(setN t c) : Int) ∧ (↑x : Int) + (1 : Int) = (↑x_1 : Int) ∧ True) ∧ (((24 : Nat) = (24 : Nat) ∧ t = t) ∧ True) ∧ True)) ∧ (decide ((0 : Int) ≤ (List.getD t.snd.fst (↑x : Int).toNat ((0 : Int), (0 : Int), ())).snd.fst) = false → inK IntKind.i64 ((↑x : Int) + (1 : Int)) ∧ ∃ (x_1 : Nat), (x_1 ≤ t.snd.fst.length ∧ ∀ (m : Nat), m < x_1 → fromB t (↑(setN t c) : Int) m = true) ∧ t.snd.fst.length - x_1 < t.snd.fst.length - x ∧ (([] : List Nat) = [] ∧ (↑(setN t c) : Int) = (↑(setN t c) : Int) ∧ (↑x : Int) + (1 : Int) = (↑x_1 : Int) ∧ True) ∧ (((24 : Nat) = (24 : Nat) ∧ t = t) ∧ True) ∧ True)) ∧ (bitB (↑(setN t c) : Int) (↑x : Int) = false → inK IntKind.i64 ((↑x : Int) + (1 : Int)) ∧ ∃ (x_1 : Nat), (x_1 ≤ t.snd.fst.length ∧ ∀ (m : Nat), m < x_1 → fromB t (↑(setN t c) : Int) m = true) ∧ t.snd.fst.length - x_1 < t.snd.fst.length - x ∧ (([] : List Nat) = [] ∧ (↑(setN t c) : Int) = (↑(setN t c) : Int) ∧ (↑x : Int) + (1 : Int) = (↑x_1 : Int) ∧ True) ∧ (((24 : Nat) = (24 : Nat) ∧ t = t) ∧ True) ∧ True)) ∧ (decide ((↑x : Int) < (↑(List.length t.snd.fst) : Int)) = false → k [Dat.mk Ty.bool true])) := by kernel_rfl
theorem vcRCut (t : Tr) (c : List Int) (k : List Dat → Prop) : vcF ⟨Ez, [(8, cRTrace), (12, cROf), (42, cWithin)], [], [], []⟩ (anRCut t c) (Tryd.f27.body.getD .skip) Tryd.f27.ntmps [(.tmp 4, I)] [⟨tTr, t⟩, ⟨.sl I, c⟩] k = (
  True ∧ ((decide (chk t = (0 : Int)) = true → ((!decide ((↑c.length : Int) = t.fst)) = true → ∃ (x : Int), (x = cut0 t c ∧ True) ∧ (c = c ∧ ([] : List Nat) = [] ∧ (3 : Int) = x ∧ True) ∧ (((24 : Nat) = (24 : Nat) ∧ t = t) ∧ True) ∧ True) ∧ ((!decide ((↑c.length : Int) = t.fst)) = false → ∃ (x : Int), (x = cut0 t c ∧ True) ∧ (c = c ∧ ([] : List Nat) = [] ∧ chk t = x ∧ True) ∧ (((24 : Nat) = (24 : Nat) ∧ t = t) ∧ True) ∧ True)) ∧ (decide (chk t = (0 : Int)) = false → ∃ (x : Int), (x = cut0 t c ∧ True) ∧ (c = c ∧ ([] : List Nat) = [] ∧ chk t = x ∧ True) ∧ (((24 : Nat) = (24 : Nat) ∧ t = t) ∧ True) ∧ True)) ∧ ∀ (x : Int), x = cut0 t c ∧ True → (∃ (x_1 : Nat × Int), (x_1.fst ≤ c.length ∧ (x_1.snd = (0 : Int) → cut0 t c = (0 : Int) ∧ ∀ (p : Nat), p < x_1.fst → inB (c.getD p (0 : Int)) (0 : Int) (↑(lenT t p) : Int) = true) ∧ (x_1.snd ≠ (0 : Int) → cutE t c = x_1.snd)) ∧ (c = c ∧ ([] : List Nat) = [] ∧ x = x_1.snd ∧ (0 : Int) = (↑x_1.fst : Int) ∧ True) ∧ (((24 : Nat) = (24 : Nat) ∧ t = t) ∧ True) ∧ True) ∧ ∀ (x : Nat × Int), x.fst ≤ c.length ∧ (x.snd = (0 : Int) → cut0 t c = (0 : Int) ∧ ∀ (p : Nat), p < x.fst → inB (c.getD p (0 : Int)) (0 : Int) (↑(lenT t p) : Int) = true) ∧ (x.snd ≠ (0 : Int) → cutE t c = x.snd) → (decide ((↑x.fst : Int) < (↑c.length : Int)) = true → (decide (x.snd = (0 : Int)) = true → ((0 : Int) ≤ (↑x.fst : Int) ∧ (↑x.fst : Int) < (↑c.length : Int) ∧ (chk t = (0 : Int) ∧ True) ∧ True ∧ True) ∧ ((!inB (c.getD (↑x.fst : Int).toNat (0 : Int)) (0 : Int) (↑(ofT t (↑x.fst : Int)).length : Int)) = true → inK IntKind.i64 ((↑x.fst : Int) + (1 : Int)) ∧ ∃ (x_1 : Nat × Int), (x_1.fst ≤ c.length ∧ (x_1.snd = (0 : Int) → cut0 t c = (0 : Int) ∧ ∀ (p : Nat), p < x_1.fst → inB (c.getD p (0 : Int)) (0 : Int) (↑(lenT t p) : Int) = true) ∧ (x_1.snd ≠ (0 : Int) → cutE t c = x_1.snd)) ∧ c.length - x_1.fst < c.length - x.fst ∧ (c = c ∧ ([] : List Nat) = [] ∧ (1 : Int) = x_1.snd ∧ (↑x.fst : Int) + (1 : Int) = (↑x_1.fst : Int) ∧ True) ∧ (((24 : Nat) = (24 : Nat) ∧ t = t) ∧ True) ∧ True) ∧ ((!inB (c.getD (↑x.fst : Int).toNat (0 : Int)) (0 : Int) (↑(ofT t (↑x.fst : Int)).length : Int)) = false → inK IntKind.i64 ((↑x.fst : Int) + (1 : Int)) ∧ ∃ (x_1 : Nat × Int), (x_1.fst ≤ c.length ∧ (x_1.snd = (0 : Int) → cut0 t c = (0 : Int) ∧ ∀ (p : Nat), p < x_1.fst → inB (c.getD p (0 : Int)) (0 : Int) (↑(lenT t p) : Int) = true) ∧ (x_1.snd ≠ (0 : Int) → cutE t c = x_1.snd)) ∧ c.length - x_1.fst < c.length - x.fst ∧ (c = c ∧ ([] : List Nat) = [] ∧ x.snd = x_1.snd ∧ (↑x.fst : Int) + (1 : Int) = (↑x_1.fst : Int) ∧ True) ∧ (((24 : Nat) = (24 : Nat) ∧ t = t) ∧ True) ∧ True)) ∧ (decide (x.snd = (0 : Int)) = false → k [Dat.mk (I) x.snd])) ∧ (decide ((↑x.fst : Int) < (↑c.length : Int)) = false → k [Dat.mk (I) x.snd])) := by kernel_rfl
theorem vcRLine (t : Tr) (c : List Int) (k : List Dat → Prop) : vcF ⟨Ez, [(11, cRBefore), (28, cRSet), (49, cBit), (57, cSub)], [], [], []⟩ (anRLine t c) (Tryd.f30.body.getD .skip) Tryd.f30.ntmps [(.tmp 4, .sl I)] [⟨tTr, t⟩, ⟨.sl I, c⟩] k = (
  (chk t = (0 : Int) ∧ True) ∧ (cutE t c = (0 : Int) ∧ True) ∧ (0 : Int) ≤ t.fst ∧ t.fst ≤ t.fst ∧ t.fst ≤ (1000000000 : Int) ∧ (∃ (x : Nat), (x ≤ t.snd.fst.length ∧ True) ∧ (([] : List Nat) = [] ∧ ints (befN t) = ints (befN t) ∧ (↑(setN t c) : Int) = (↑(setN t c) : Int) ∧ True ∧ (0 : Int) = (↑x : Int) ∧ True) ∧ (((24 : Nat) = (24 : Nat) ∧ t = t) ∧ ((3 : Nat) = (3 : Nat) ∧ List.replicate (Int.toNat t.fst) (0 : Int) = lnR t c x) ∧ True) ∧ True) ∧ ∀ (x : Nat), x ≤ t.snd.fst.length ∧ True → (decide ((↑x : Int) < (↑(List.length t.snd.fst) : Int)) = true → True ∧ (bitB (↑(setN t c) : Int) (↑x : Int) = true → (0 : Int) ≤ (↑x : Int) ∧ (↑x : Int) < (↑(ints (befN t)).length : Int) ∧ True ∧ (subB ((ints (befN t)).getD (↑x : Int).toNat (0 : Int)) (↑(setN t c) : Int) = true → (0 : Int) ≤ (↑x : Int) ∧ (↑x : Int) < (↑(List.length t.snd.fst) : Int) ∧ (0 : Int) ≤ (List.getD t.snd.fst (↑x : Int).toNat ((0 : Int), (0 : Int), ())).fst ∧ (List.getD t.snd.fst (↑x : Int).toNat ((0 : Int), (0 : Int), ())).fst < (↑(lnR t c x).length : Int) ∧ inK IntKind.i64 ((lnR t c x).getD (Int.toNat (List.getD t.snd.fst (↑x : Int).toNat ((0 : Int), (0 : Int), ())).fst) (0 : Int) + (1 : Int)) ∧ (0 : Int) ≤ (List.getD t.snd.fst (↑x : Int).toNat ((0 : Int), (0 : Int), ())).fst ∧ (List.getD t.snd.fst (↑x : Int).toNat ((0 : Int), (0 : Int), ())).fst < (↑(lnR t c x).length : Int) ∧ inK IntKind.i64 ((↑x : Int) + (1 : Int)) ∧ ∃ (x_1 : Nat), (x_1 ≤ t.snd.fst.length ∧ True) ∧ t.snd.fst.length - x_1 < t.snd.fst.length - x ∧ (([] : List Nat) = [] ∧ ints (befN t) = ints (befN t) ∧ (↑(setN t c) : Int) = (↑(setN t c) : Int) ∧ True ∧ (↑x : Int) + (1 : Int) = (↑x_1 : Int) ∧ True) ∧ (((24 : Nat) = (24 : Nat) ∧ t = t) ∧ ((3 : Nat) = (3 : Nat) ∧ (lnR t c x).set (Int.toNat (List.getD t.snd.fst (↑x : Int).toNat ((0 : Int), (0 : Int), ())).fst) ((lnR t c x).getD (Int.toNat (List.getD t.snd.fst (↑x : Int).toNat ((0 : Int), (0 : Int), ())).fst) (0 : Int) + (1 : Int)) = lnR t c x_1) ∧ True) ∧ True) ∧ (subB ((ints (befN t)).getD (↑x : Int).toNat (0 : Int)) (↑(setN t c) : Int) = false → inK IntKind.i64 ((↑x : Int) + (1 : Int)) ∧ ∃ (x_1 : Nat), (x_1 ≤ t.snd.fst.length ∧ True) ∧ t.snd.fst.length - x_1 < t.snd.fst.length - x ∧ (([] : List Nat) = [] ∧ ints (befN t) = ints (befN t) ∧ (↑(setN t c) : Int) = (↑(setN t c) : Int) ∧ True ∧ (↑x : Int) + (1 : Int) = (↑x_1 : Int) ∧ True) ∧ (((24 : Nat) = (24 : Nat) ∧ t = t) ∧ ((3 : Nat) = (3 : Nat) ∧ lnR t c x = lnR t c x_1) ∧ True) ∧ True)) ∧ (bitB (↑(setN t c) : Int) (↑x : Int) = false → inK IntKind.i64 ((↑x : Int) + (1 : Int)) ∧ ∃ (x_1 : Nat), (x_1 ≤ t.snd.fst.length ∧ True) ∧ t.snd.fst.length - x_1 < t.snd.fst.length - x ∧ (([] : List Nat) = [] ∧ ints (befN t) = ints (befN t) ∧ (↑(setN t c) : Int) = (↑(setN t c) : Int) ∧ True ∧ (↑x : Int) + (1 : Int) = (↑x_1 : Int) ∧ True) ∧ (((24 : Nat) = (24 : Nat) ∧ t = t) ∧ ((3 : Nat) = (3 : Nat) ∧ lnR t c x = lnR t c x_1) ∧ True) ∧ True)) ∧ (decide ((↑x : Int) < (↑(List.length t.snd.fst) : Int)) = false → k [Dat.mk (I).sl (lnR t c x)])) := by kernel_rfl
theorem vcRCuts (d : Nat) (t : Tr) (c : List Int) (k : List Dat → Prop) : vcF ⟨Ez, [(12, cROf), (29, cRWhole), (26, cRCuts d)], [], [], []⟩ (anRCuts t c) (Tryd.f26.body.getD .skip) Tryd.f26.ntmps [(.tmp 4, I)] [⟨tTr, t⟩, ⟨.sl I, c⟩] k = (
  (decide ((↑c.length : Int) = t.fst) = true → (cutE t c = (0 : Int) ∧ True) ∧ (wholeB t c = true → k [Dat.mk (I) (1 : Int)]) ∧ (wholeB t c = false → k [Dat.mk (I) (0 : Int)])) ∧ (decide ((↑c.length : Int) = t.fst) = false → (∃ (x : Nat), (x ≤ lenT t c.length + (1 : Nat) ∧ c.length < t.fst.toNat) ∧ (c = c ∧ ([] : List Nat) = [] ∧ (↑c.length : Int) = (↑c.length : Int) ∧ (0 : Int) = (↑(cutsU t c (t.fst.toNat - c.length - (1 : Nat)) x) : Int) ∧ (0 : Int) = (↑x : Int) ∧ True) ∧ (((24 : Nat) = (24 : Nat) ∧ t = t) ∧ True) ∧ True) ∧ ∀ (x : Nat), x ≤ lenT t c.length + (1 : Nat) ∧ c.length < t.fst.toNat → (chk t = (0 : Int) ∧ True) ∧ (decide ((↑x : Int) ≤ (↑(ofT t (↑c.length : Int)).length : Int)) = true → c.length ≤ (1000000000 : Nat) ∧ True ∧ c.length + ((List.replicate (1 : Nat) (0 : Int)).set (0 : Nat) (↑x : Int)).length ≤ (1000000000 : Nat) ∧ (chk t = (0 : Int) ∧ ((c.append ((List.replicate (1 : Nat) (0 : Int)).set (0 : Nat) (↑x : Int))).length ≤ Int.toNat t.fst ∧ Int.toNat t.fst < (c.append ((List.replicate (1 : Nat) (0 : Int)).set (0 : Nat) (↑x : Int))).length + d) ∧ ∀ (p : Nat), p < (c.append ((List.replicate (1 : Nat) (0 : Int)).set (0 : Nat) (↑x : Int))).length → (0 : I.D) ≤ (c.append ((List.replicate (1 : Nat) (0 : Int)).set (0 : Nat) (↑x : Int))).getD p (0 : I.D) ∧ (c.append ((List.replicate (1 : Nat) (0 : Int)).set (0 : Nat) (↑x : Int))).getD p (0 : I.D) ≤ (↑(lenT t p) : Int)) ∧ inK IntKind.i64 ((↑(cutsU t c (t.fst.toNat - c.length - (1 : Nat)) x) : Int) + (↑(cutsN t (Int.toNat t.fst - (c.append ((List.replicate (1 : Nat) (0 : Int)).set (0 : Nat) (↑x : Int))).length) (c.append ((List.replicate (1 : Nat) (0 : Int)).set (0 : Nat) (↑x : Int)))) : Int)) ∧ (t = t ∧ True) ∧ inK IntKind.i64 ((↑x : Int) + (1 : Int)) ∧ ∃ (x_1 : Nat), (x_1 ≤ lenT t c.length + (1 : Nat) ∧ c.length < t.fst.toNat) ∧ lenT t c.length + (1 : Nat) - x_1 < lenT t c.length + (1 : Nat) - x ∧ (c = c ∧ ([] : List Nat) = [] ∧ (↑c.length : Int) = (↑c.length : Int) ∧ (↑(cutsU t c (t.fst.toNat - c.length - (1 : Nat)) x) : Int) + (↑(cutsN t (Int.toNat t.fst - (c.append ((List.replicate (1 : Nat) (0 : Int)).set (0 : Nat) (↑x : Int))).length) (c.append ((List.replicate (1 : Nat) (0 : Int)).set (0 : Nat) (↑x : Int)))) : Int) = (↑(cutsU t c (t.fst.toNat - c.length - (1 : Nat)) x_1) : Int) ∧ (↑x : Int) + (1 : Int) = (↑x_1 : Int) ∧ True) ∧ (((24 : Nat) = (24 : Nat) ∧ t = t) ∧ True) ∧ True) ∧ (decide ((↑x : Int) ≤ (↑(ofT t (↑c.length : Int)).length : Int)) = false → k [Dat.mk (I) (↑(cutsU t c (t.fst.toNat - c.length - (1 : Nat)) x) : Int)]))) := by kernel_rfl
theorem vcLawC (t : Tr) (k : List Dat → Prop) : vcF ⟨Ez, [(24, cFact), (25, cCount), (15, cOf)], glT, [], []⟩ (anLawC t) (Tryd.f5.body.getD .skip) Tryd.f5.ntmps [(.tmp 2, .bool)] [⟨tTr, t⟩] k = (
  True ∧ ((!true) = true → k [Dat.mk Ty.bool false]) ∧ ((!true) = false → True ∧ ((!decide (chk t = (0 : Int))) = true → k [Dat.mk Ty.bool (decide ((if chk t = (0 : Int) then (↑(countW t) : Int) else (0 : I.D)) = (0 : Int)))]) ∧ ((!decide (chk t = (0 : Int))) = false → (∃ (x : Nat), (x ≤ t.fst.toNat ∧ chk t = (0 : Int)) ∧ (([] : List Nat) = [] ∧ ((if chk t = (0 : Int) then (↑(countW t) : Int) else (0 : I.D)) = if chk t = (0 : Int) then (↑(countW t) : Int) else (0 : I.D)) ∧ (1 : Int) = (↑(prodU t x) : Int) ∧ (0 : Int) = (↑x : Int) ∧ True) ∧ (((24 : Nat) = (24 : Nat) ∧ t = t) ∧ True) ∧ tabD = tabD ∧ True) ∧ ∀ (x : Nat), x ≤ t.fst.toNat ∧ chk t = (0 : Int) → (decide ((↑x : Int) < t.fst) = true → (decide ((↑x : Int) < (5 : Int)) = true → True ∧ ((!decide (ofE t (↑x : Int) = (0 : Int))) = true → k [Dat.mk Ty.bool false]) ∧ ((!decide (ofE t (↑x : Int) = (0 : Int))) = false → inK IntKind.i64 ((↑(if ofE t (↑x : Int) = (0 : Int) then ofT t (↑x : Int) else []).length : Int) + (1 : Int)) ∧ inK IntKind.i64 ((↑(prodU t x) : Int) * ((↑(if ofE t (↑x : Int) = (0 : Int) then ofT t (↑x : Int) else []).length : Int) + (1 : Int))) ∧ inK IntKind.i64 ((↑x : Int) + (1 : Int)) ∧ ∃ (x_1 : Nat), (x_1 ≤ t.fst.toNat ∧ chk t = (0 : Int)) ∧ (5 : Nat) - x_1 < (5 : Nat) - x ∧ (([] : List Nat) = [] ∧ ((if chk t = (0 : Int) then (↑(countW t) : Int) else (0 : I.D)) = if chk t = (0 : Int) then (↑(countW t) : Int) else (0 : I.D)) ∧ (↑(prodU t x) : Int) * ((↑(if ofE t (↑x : Int) = (0 : Int) then ofT t (↑x : Int) else []).length : Int) + (1 : Int)) = (↑(prodU t x_1) : Int) ∧ (↑x : Int) + (1 : Int) = (↑x_1 : Int) ∧ True) ∧ (((24 : Nat) = (24 : Nat) ∧ t = t) ∧ True) ∧ tabD = tabD ∧ True)) ∧ (decide ((↑x : Int) < (5 : Int)) = false → inK IntKind.i64 ((↑(List.length t.snd.fst) : Int) + (1 : Int)) ∧ (decide ((↑(List.length t.snd.fst) : Int) + (1 : Int) ≤ if chk t = (0 : Int) then (↑(countW t) : Int) else (0 : I.D)) = true → k [Dat.mk Ty.bool (decide ((if chk t = (0 : Int) then (↑(countW t) : Int) else (0 : I.D)) ≤ (↑(prodU t x) : Int)))]) ∧ (decide ((↑(List.length t.snd.fst) : Int) + (1 : Int) ≤ if chk t = (0 : Int) then (↑(countW t) : Int) else (0 : I.D)) = false → k [Dat.mk Ty.bool false]))) ∧ (decide ((↑x : Int) < t.fst) = false → inK IntKind.i64 ((↑(List.length t.snd.fst) : Int) + (1 : Int)) ∧ (decide ((↑(List.length t.snd.fst) : Int) + (1 : Int) ≤ if chk t = (0 : Int) then (↑(countW t) : Int) else (0 : I.D)) = true → k [Dat.mk Ty.bool (decide ((if chk t = (0 : Int) then (↑(countW t) : Int) else (0 : I.D)) ≤ (↑(prodU t x) : Int)))]) ∧ (decide ((↑(List.length t.snd.fst) : Int) + (1 : Int) ≤ if chk t = (0 : Int) then (↑(countW t) : Int) else (0 : I.D)) = false → k [Dat.mk Ty.bool false]))))) := by kernel_rfl
theorem vcLawX (t : Tr) (c : List Int) (k : List Dat → Prop) : vcF ⟨Ez, [(8, cRTrace), (9, cError), (14, cInts), (25, cCount), (26, cRCuts 6), (27, cRCut), (28, cRSet), (29, cRWhole), (30, cRLine), (31, cEvents), (32, cIs), (33, cLine)], (glT ++ glE), [], []⟩ (anLawX t c) (Tryd.f6.body.getD .skip) Tryd.f6.ntmps [(.tmp 4, .bool)] [⟨tTr, t⟩, ⟨.sl I, c⟩] k = (
  True ∧ ((decide (chk t = (0 : Int)) = true → (chk t = (0 : Int) ∧ (([] : List Int).length ≤ Int.toNat t.fst ∧ Int.toNat t.fst < ([] : List Int).length + (6 : Nat)) ∧ ∀ (p : Nat), p < ([] : List Int).length → (0 : I.D) ≤ [].getD p (0 : I.D) ∧ [].getD p (0 : I.D) ≤ (↑(lenT t p) : Int)) ∧ ∃ (x : Unit), (True ∧ True) ∧ (c = c ∧ ([] : List Nat) = [] ∧ chk t = chk t ∧ ((↑(cutsN t (Int.toNat t.fst - ([] : List Int).length) []) : Int) = if chk t = (0 : Int) then (↑(countW t) : Int) else (0 : I.D)) ∧ True) ∧ (((24 : Nat) = (24 : Nat) ∧ t = t) ∧ True) ∧ tabD = tabD ∧ hdE = hdE ∧ True) ∧ (decide (chk t = (0 : Int)) = false → ∃ (x : Unit), (True ∧ True) ∧ (c = c ∧ ([] : List Nat) = [] ∧ chk t = chk t ∧ ((0 : Int) = if chk t = (0 : Int) then (↑(countW t) : Int) else (0 : I.D)) ∧ True) ∧ (((24 : Nat) = (24 : Nat) ∧ t = t) ∧ True) ∧ tabD = tabD ∧ hdE = hdE ∧ True)) ∧ ∀ (x : Unit), True ∧ True → True ∧ ((inK IntKind.i64 (chk t) ∧ True) ∧ (decide (chk t = chk t) = true → ∃ (x : Unit), (True ∧ True) ∧ (c = c ∧ ([] : List Nat) = [] ∧ decide ((if chk t = (0 : Int) then (↑(countW t) : Int) else (0 : I.D)) = if chk t = (0 : Int) then (↑(countW t) : Int) else (0 : I.D)) = true ∧ True) ∧ (((24 : Nat) = (24 : Nat) ∧ t = t) ∧ True) ∧ tabD = tabD ∧ hdE = hdE ∧ True) ∧ (decide (chk t = chk t) = false → ∃ (x : Unit), (True ∧ True) ∧ (c = c ∧ ([] : List Nat) = [] ∧ false = true ∧ True) ∧ (((24 : Nat) = (24 : Nat) ∧ t = t) ∧ True) ∧ tabD = tabD ∧ hdE = hdE ∧ True)) ∧ ∀ (x : Unit), True ∧ True → True ∧ ((decide (cutE t c = (0 : Int)) = true → (cutE t c = (0 : Int) ∧ True) ∧ (cutE t c = (0 : Int) ∧ True) ∧ (cutE t c = (0 : Int) ∧ True) ∧ ∃ (x : Unit), (True ∧ True) ∧ (c = c ∧ ([] : List Nat) = [] ∧ cutE t c = cutE t c ∧ true = true ∧ (↑(setN t c) : Int) = setE t c ∧ lineR t c = lineQ t c ∧ (wholeB t c = if cutE t c = (0 : Int) then wholeB t c else false) ∧ True) ∧ (((24 : Nat) = (24 : Nat) ∧ t = t) ∧ True) ∧ tabD = tabD ∧ hdE = hdE ∧ True) ∧ (decide (cutE t c = (0 : Int)) = false → ∃ (x : Unit), (True ∧ True) ∧ (c = c ∧ ([] : List Nat) = [] ∧ cutE t c = cutE t c ∧ true = true ∧ (0 : Int) = setE t c ∧ lineQ t c = [] ∧ (false = if cutE t c = (0 : Int) then wholeB t c else false) ∧ True) ∧ (((24 : Nat) = (24 : Nat) ∧ t = t) ∧ True) ∧ tabD = tabD ∧ hdE = hdE ∧ True)) ∧ ∀ (x : Unit), True ∧ True → True ∧ (inK IntKind.i64 (cutE t c) ∧ True) ∧ (decide (cutE t c = cutE t c) = true → True ∧ ((inK IntKind.i64 (cutE t c) ∧ True) ∧ (decide (cutE t c = cutE t c) = true → ∃ (x : Unit), (True ∧ True) ∧ (c = c ∧ ([] : List Nat) = [] ∧ cutE t c = cutE t c ∧ true = true ∧ lineQ t c = lineQ t c ∧ decide (setE t c = setE t c) = true ∧ ((if cutE t c = (0 : Int) then wholeB t c else false) == if cutE t c = (0 : Int) then wholeB t c else false) = true ∧ True) ∧ (((24 : Nat) = (24 : Nat) ∧ t = t) ∧ True) ∧ tabD = tabD ∧ hdE = hdE ∧ True) ∧ (decide (cutE t c = cutE t c) = false → ∃ (x : Unit), (True ∧ True) ∧ (c = c ∧ ([] : List Nat) = [] ∧ cutE t c = cutE t c ∧ true = true ∧ lineQ t c = lineQ t c ∧ decide (setE t c = setE t c) = true ∧ false = true ∧ True) ∧ (((24 : Nat) = (24 : Nat) ∧ t = t) ∧ True) ∧ tabD = tabD ∧ hdE = hdE ∧ True)) ∧ ∀ (x : Unit), True ∧ True → ∀ (l : List Int), (cutE t c = (0 : Int) → lineP t c l) → (cutE t c ≠ (0 : Int) → l = []) → (true = true → (true = true → (true = true → (inK IntKind.i64 (cutE t c) ∧ True) ∧ (decide (cutE t c = cutE t c) = true → True ∧ k [Dat.mk Ty.bool (l == lineQ t c)]) ∧ (decide (cutE t c = cutE t c) = false → k [Dat.mk Ty.bool false])) ∧ (true = false → k [Dat.mk Ty.bool false])) ∧ (true = false → k [Dat.mk Ty.bool false])) ∧ (true = false → k [Dat.mk Ty.bool false])) ∧ (decide (cutE t c = cutE t c) = false → True ∧ ((inK IntKind.i64 (cutE t c) ∧ True) ∧ (decide (cutE t c = cutE t c) = true → ∃ (x : Unit), (True ∧ True) ∧ (c = c ∧ ([] : List Nat) = [] ∧ cutE t c = cutE t c ∧ true = true ∧ lineQ t c = lineQ t c ∧ false = true ∧ ((if cutE t c = (0 : Int) then wholeB t c else false) == if cutE t c = (0 : Int) then wholeB t c else false) = true ∧ True) ∧ (((24 : Nat) = (24 : Nat) ∧ t = t) ∧ True) ∧ tabD = tabD ∧ hdE = hdE ∧ True) ∧ (decide (cutE t c = cutE t c) = false → ∃ (x : Unit), (True ∧ True) ∧ (c = c ∧ ([] : List Nat) = [] ∧ cutE t c = cutE t c ∧ true = true ∧ lineQ t c = lineQ t c ∧ false = true ∧ false = true ∧ True) ∧ (((24 : Nat) = (24 : Nat) ∧ t = t) ∧ True) ∧ tabD = tabD ∧ hdE = hdE ∧ True)) ∧ ∀ (x : Unit), True ∧ True → ∀ (l : List Int), (cutE t c = (0 : Int) → lineP t c l) → (cutE t c ≠ (0 : Int) → l = []) → (true = true → (true = true → (true = true → (inK IntKind.i64 (cutE t c) ∧ True) ∧ (decide (cutE t c = cutE t c) = true → True ∧ k [Dat.mk Ty.bool (l == lineQ t c)]) ∧ (decide (cutE t c = cutE t c) = false → k [Dat.mk Ty.bool false])) ∧ (true = false → k [Dat.mk Ty.bool false])) ∧ (true = false → k [Dat.mk Ty.bool false])) ∧ (true = false → k [Dat.mk Ty.bool false]))) := by kernel_rfl
end Go.Proofs.YtbpoeigaoakdiaaDoor

/- What the functions of this seat have to satisfy, by program: each verification condition in plain words. -/
namespace Go.Proofs.YtbpoeigaoakdiaaDoor
open Go.Vc H
set_option linter.unusedVariables false
theorem vcAdd0 (c : List Int) (k : SV → List Ob → Prop) : vcO ⟨Eq, [], glT, [], []⟩ [joinAll] (Tryd.f53.body.getD .skip) Tryd.f53.ntmps [(.tmp 4, I), (.tmp 5, .bool)] [.ps 0, .d tK c] q0 k = (
  ((mpGet ([] : List (List Int × Int)) c).isSome = true → k (SV.tp [SV.d (I) (0 : Int), SV.d Ty.bool false]) [Ob.st (91 : Nat) [SV.os (1 : Nat), SV.nils], Ob.mp (5 : Nat) (I) []]) ∧ ((mpGet ([] : List (List Int × Int)) c).isSome = false → True ∧ True ∧ ((List.replicate (1 : Nat) (List.replicate (5 : Nat) (0 : Int))).set (0 : Nat) c).length ≤ (1000000000 : Nat) ∧ inK IntKind.i64 ((↑((List.replicate (1 : Nat) (List.replicate (5 : Nat) (0 : Int))).set (0 : Nat) c).length : Int) - (1 : Int)) ∧ k (SV.tp [SV.d (I) ((↑((List.replicate (1 : Nat) (List.replicate (5 : Nat) (0 : Int))).set (0 : Nat) c).length : Int) - (1 : Int)), SV.d Ty.bool true]) [Ob.st (91 : Nat) [SV.os (1 : Nat), SV.os (2 : Nat)], Ob.mp (5 : Nat) (I) (mpPut [] c (0 : Int)), Ob.row (74 : Nat) (Ty.ar (5 : Nat) (I)) ((List.replicate (1 : Nat) (List.replicate (5 : Nat) (0 : Int))).set (0 : Nat) c)])) := by kernel_rfl
theorem vcAdd1 (c : List Int) (L : LL) (k : SV → List Ob → Prop) : vcO ⟨Eq, [], glT, [], []⟩ [joinAll] (Tryd.f53.body.getD .skip) Tryd.f53.ntmps [(.tmp 4, I), (.tmp 5, .bool)] [.ps 0, .d tK c] (qOb L) k = (
  ((mpGet (mpE L (0 : Nat)) c).isSome = true → k (SV.tp [SV.d (I) (match mpGet (mpE L (0 : Nat)) c with | some x => x | none => (0 : Int)), SV.d Ty.bool false]) [Ob.st (91 : Nat) [SV.os (1 : Nat), SV.os (2 : Nat)], Ob.mp (5 : Nat) (I) (mpE L (0 : Nat)), Ob.row (74 : Nat) (Ty.ar (5 : Nat) (I)) L]) ∧ ((mpGet (mpE L (0 : Nat)) c).isSome = false → True ∧ True ∧ List.length L + ((List.replicate (1 : Nat) (List.replicate (5 : Nat) (0 : Int))).set (0 : Nat) c).length ≤ (1000000000 : Nat) ∧ inK IntKind.i64 ((↑(List.append L ((List.replicate (1 : Nat) (List.replicate (5 : Nat) (0 : Int))).set (0 : Nat) c)).length : Int) - (1 : Int)) ∧ k (SV.tp [SV.d (I) ((↑(List.append L ((List.replicate (1 : Nat) (List.replicate (5 : Nat) (0 : Int))).set (0 : Nat) c)).length : Int) - (1 : Int)), SV.d Ty.bool true]) [Ob.st (91 : Nat) [SV.os (1 : Nat), SV.os (2 : Nat)], Ob.mp (5 : Nat) (I) (mpPut (mpE L (0 : Nat)) c (↑(List.length L) : Int)), Ob.row (74 : Nat) (Ty.ar (5 : Nat) (I)) (List.append L ((List.replicate (1 : Nat) (List.replicate (5 : Nat) (0 : Int))).set (0 : Nat) c))])) := by kernel_rfl
theorem vcLen (L : LL) (k : SV → List Ob → Prop) : vcO ⟨Eq, [], glT, [], []⟩ [joinAll] (Tryd.f54.body.getD .skip) Tryd.f54.ntmps [(.tmp 2, I)] [.ps 0] (qOb L) k = (
  k (SV.d (I) (↑(List.length L) : Int)) [Ob.st (91 : Nat) [SV.os (1 : Nat), SV.os (2 : Nat)], Ob.mp (5 : Nat) (I) (mpE L (0 : Nat)), Ob.row (74 : Nat) (Ty.ar (5 : Nat) (I)) L]) := by kernel_rfl
theorem vcAt (L : LL) (i : Int) (k : SV → List Ob → Prop) : vcO ⟨Eq, [], glT, [], []⟩ [joinAll] (Tryd.f55.body.getD .skip) Tryd.f55.ntmps [(.cell 4 74, tK)] [.ps 0, .d I i] (qOb L) k = (
  (0 : Int) ≤ i ∧ i < (↑(List.length L) : Int) ∧ k (SV.d (Ty.ar (5 : Nat) (I)) (List.getD L i.toNat (List.replicate (5 : Nat) (0 : Int)))) [Ob.st (91 : Nat) [SV.os (1 : Nat), SV.os (2 : Nat)], Ob.mp (5 : Nat) (I) (mpE L (0 : Nat)), Ob.row (74 : Nat) (Ty.ar (5 : Nat) (I)) L]) := by kernel_rfl
end Go.Proofs.YtbpoeigaoakdiaaDoor

/- What the functions of this seat have to satisfy, by program: each verification condition in plain words. -/
namespace Go.Proofs.YtbpoeigaoakdiaaDoor
open Go.Vc H
set_option linter.unusedVariables false
theorem vcCount (t : Tr) (k : List Dat → Prop) : vcF ⟨Eq, [(10, cCheck), (52, cOfs), (32, cIs)], glT, [], [(53, oAdd), (54, oLen), (55, oAt)]⟩ (anCount t) (Tryd.f25.body.getD .skip) Tryd.f25.ntmps [(.tmp 2, I), (.tmp 3, tErr)] [⟨tTr, t⟩] k = (
  True ∧ ((!decide (chk t = (0 : Int))) = true → k [Dat.mk (I) (0 : Int), Dat.mk (Ty.err (71 : Nat)) (chk t)]) ∧ ((!decide (chk t = (0 : Int))) = false → ((0 : Int) ≤ t.fst ∧ t.fst ≤ t.fst ∧ t.fst ≤ (1000000000 : Int) ∧ True ∧ True) ∧ ((!decide (cutE t (List.replicate (Int.toNat t.fst) (0 : Int)) = (0 : Int))) = true → k [Dat.mk (I) (0 : Int), Dat.mk (Ty.err (71 : Nat)) (cutE t (List.replicate (Int.toNat t.fst) (0 : Int)))]) ∧ ((!decide (cutE t (List.replicate (Int.toNat t.fst) (0 : Int)) = (0 : Int))) = false → ∀ (n : Int) (b : Bool), (∃ (x : Nat × LL), ((chk t = (0 : Int) ∧ x.fst ≤ List.length x.snd) ∧ foundP t x.snd ∧ closedTo t x.snd x.fst) ∧ (([] : List Nat) = [] ∧ ((if cutE t (List.replicate (Int.toNat t.fst) (0 : Int)) = (0 : Int) then rowsT t (Int.toNat t.fst) else []) = if cutE t (List.replicate (Int.toNat t.fst) (0 : Int)) = (0 : Int) then rowsT t (Int.toNat t.fst) else []) ∧ True ∧ (0 : Int) = (↑x.fst : Int) ∧ True) ∧ (((24 : Nat) = (24 : Nat) ∧ t = t) ∧ (True ∧ True ∧ True) ∧ ((5 : Nat) = (5 : Nat) ∧ mpE [List.replicate (5 : Nat) (0 : Int)] (0 : Nat) = mpE x.snd (0 : Nat)) ∧ ((74 : Nat) = (74 : Nat) ∧ [List.replicate (5 : Nat) (0 : Int)] = x.snd) ∧ True) ∧ tabD = tabD ∧ True) ∧ ∀ (x : Nat × LL), (chk t = (0 : Int) ∧ x.fst ≤ List.length x.snd) ∧ foundP t x.snd ∧ closedTo t x.snd x.fst → mpE x.snd (0 : Nat) = mpE x.snd (0 : Nat) ∧ (decide ((↑x.fst : Int) < (↑(List.length x.snd) : Int)) = true → (∃ (x_1 : Nat × LL), ((x_1.fst ≤ t.fst.toNat ∧ (↑x.fst : Int).toNat < List.length x_1.snd) ∧ foundP t x_1.snd ∧ closedTo t x_1.snd (↑x.fst : Int).toNat ∧ closedAt t x_1.snd (↑x.fst : Int).toNat x_1.fst) ∧ (([] : List Nat) = [] ∧ ((if cutE t (List.replicate (Int.toNat t.fst) (0 : Int)) = (0 : Int) then rowsT t (Int.toNat t.fst) else []) = if cutE t (List.replicate (Int.toNat t.fst) (0 : Int)) = (0 : Int) then rowsT t (Int.toNat t.fst) else []) ∧ True ∧ (↑x.fst : Int) = (↑x.fst : Int) ∧ t.fst = t.fst ∧ (0 : Int) = (↑x_1.fst : Int) ∧ True) ∧ (((24 : Nat) = (24 : Nat) ∧ t = t) ∧ (True ∧ True ∧ True) ∧ ((5 : Nat) = (5 : Nat) ∧ mpE x.snd (0 : Nat) = mpE x_1.snd (0 : Nat)) ∧ ((74 : Nat) = (74 : Nat) ∧ x.snd = x_1.snd) ∧ True) ∧ tabD = tabD ∧ True) ∧ ∀ (x_1 : Nat × LL), (x_1.fst ≤ t.fst.toNat ∧ (↑x.fst : Int).toNat < List.length x_1.snd) ∧ foundP t x_1.snd ∧ closedTo t x_1.snd (↑x.fst : Int).toNat ∧ closedAt t x_1.snd (↑x.fst : Int).toNat x_1.fst → (decide ((↑x_1.fst : Int) < t.fst) = true → mpE x_1.snd (0 : Nat) = mpE x_1.snd (0 : Nat) ∧ (0 : Int) ≤ (↑x.fst : Int) ∧ (↑x.fst : Int) < (↑(List.length x_1.snd) : Int) ∧ (0 : Int) ≤ (↑x_1.fst : Int) ∧ (↑x_1.fst : Int) < (↑(5 : Nat) : Int) ∧ inK IntKind.i64 ((List.getD x_1.snd (↑x.fst : Int).toNat (List.replicate (5 : Nat) (0 : Int))).getD (↑x_1.fst : Int).toNat (0 : Int) + (1 : Int)) ∧ (0 : Int) ≤ (↑x_1.fst : Int) ∧ (↑x_1.fst : Int) < (↑(5 : Nat) : Int) ∧ ((0 : Int) ≤ (↑x_1.fst : Int) ∧ (↑x_1.fst : Int) < (↑(5 : Nat) : Int) ∧ (0 : Int) ≤ (↑x_1.fst : Int) ∧ (↑x_1.fst : Int) < (↑(if cutE t (List.replicate (Int.toNat t.fst) (0 : Int)) = (0 : Int) then rowsT t (Int.toNat t.fst) else []).length : Int) ∧ True) ∧ (decide ((↑((if cutE t (List.replicate (Int.toNat t.fst) (0 : Int)) = (0 : Int) then rowsT t (Int.toNat t.fst) else []).getD (↑x_1.fst : Int).toNat []).length : Int) < ((List.getD x_1.snd (↑x.fst : Int).toNat (List.replicate (5 : Nat) (0 : Int))).set (↑x_1.fst : Int).toNat ((List.getD x_1.snd (↑x.fst : Int).toNat (List.replicate (5 : Nat) (0 : Int))).getD (↑x_1.fst : Int).toNat (0 : Int) + (1 : Int))).getD (↑x_1.fst : Int).toNat (0 : Int)) = true → inK IntKind.i64 ((↑x_1.fst : Int) + (1 : Int)) ∧ ∃ (x_2 : Nat × LL), ((x_2.fst ≤ t.fst.toNat ∧ (↑x.fst : Int).toNat < List.length x_2.snd) ∧ foundP t x_2.snd ∧ closedTo t x_2.snd (↑x.fst : Int).toNat ∧ closedAt t x_2.snd (↑x.fst : Int).toNat x_2.fst) ∧ t.fst.toNat - x_2.fst < t.fst.toNat - x_1.fst ∧ (([] : List Nat) = [] ∧ ((if cutE t (List.replicate (Int.toNat t.fst) (0 : Int)) = (0 : Int) then rowsT t (Int.toNat t.fst) else []) = if cutE t (List.replicate (Int.toNat t.fst) (0 : Int)) = (0 : Int) then rowsT t (Int.toNat t.fst) else []) ∧ True ∧ (↑x.fst : Int) = (↑x.fst : Int) ∧ t.fst = t.fst ∧ (↑x_1.fst : Int) + (1 : Int) = (↑x_2.fst : Int) ∧ True) ∧ (((24 : Nat) = (24 : Nat) ∧ t = t) ∧ (True ∧ True ∧ True) ∧ ((5 : Nat) = (5 : Nat) ∧ mpE x_1.snd (0 : Nat) = mpE x_2.snd (0 : Nat)) ∧ ((74 : Nat) = (74 : Nat) ∧ x_1.snd = x_2.snd) ∧ True) ∧ tabD = tabD ∧ True) ∧ (decide ((↑((if cutE t (List.replicate (Int.toNat t.fst) (0 : Int)) = (0 : Int) then rowsT t (Int.toNat t.fst) else []).getD (↑x_1.fst : Int).toNat []).length : Int) < ((List.getD x_1.snd (↑x.fst : Int).toNat (List.replicate (5 : Nat) (0 : Int))).set (↑x_1.fst : Int).toNat ((List.getD x_1.snd (↑x.fst : Int).toNat (List.replicate (5 : Nat) (0 : Int))).getD (↑x_1.fst : Int).toNat (0 : Int) + (1 : Int))).getD (↑x_1.fst : Int).toNat (0 : Int)) = false → ((0 : Int) ≤ (0 : Int) ∧ (0 : Int) ≤ t.fst ∧ t.fst ≤ (↑(5 : Nat) : Int) ∧ True ∧ True) ∧ ((!decide (cutE t (List.drop (Int.toNat (0 : Int)) (List.take (Int.toNat t.fst) ((List.getD x_1.snd (↑x.fst : Int).toNat (List.replicate (5 : Nat) (0 : Int))).set (↑x_1.fst : Int).toNat ((List.getD x_1.snd (↑x.fst : Int).toNat (List.replicate (5 : Nat) (0 : Int))).getD (↑x_1.fst : Int).toNat (0 : Int) + (1 : Int))))) = (0 : Int))) = true → k [Dat.mk (I) (0 : Int), Dat.mk (Ty.err (71 : Nat)) (cutE t (List.drop (Int.toNat (0 : Int)) (List.take (Int.toNat t.fst) ((List.getD x_1.snd (↑x.fst : Int).toNat (List.replicate (5 : Nat) (0 : Int))).set (↑x_1.fst : Int).toNat ((List.getD x_1.snd (↑x.fst : Int).toNat (List.replicate (5 : Nat) (0 : Int))).getD (↑x_1.fst : Int).toNat (0 : Int) + (1 : Int))))))]) ∧ ((!decide (cutE t (List.drop (Int.toNat (0 : Int)) (List.take (Int.toNat t.fst) ((List.getD x_1.snd (↑x.fst : Int).toNat (List.replicate (5 : Nat) (0 : Int))).set (↑x_1.fst : Int).toNat ((List.getD x_1.snd (↑x.fst : Int).toNat (List.replicate (5 : Nat) (0 : Int))).getD (↑x_1.fst : Int).toNat (0 : Int) + (1 : Int))))) = (0 : Int))) = false → ((if cutE t (List.drop (Int.toNat (0 : Int)) (List.take (Int.toNat t.fst) ((List.getD x_1.snd (↑x.fst : Int).toNat (List.replicate (5 : Nat) (0 : Int))).set (↑x_1.fst : Int).toNat ((List.getD x_1.snd (↑x.fst : Int).toNat (List.replicate (5 : Nat) (0 : Int))).getD (↑x_1.fst : Int).toNat (0 : Int) + (1 : Int))))) = (0 : Int) then wholeB t (List.drop (Int.toNat (0 : Int)) (List.take (Int.toNat t.fst) ((List.getD x_1.snd (↑x.fst : Int).toNat (List.replicate (5 : Nat) (0 : Int))).set (↑x_1.fst : Int).toNat ((List.getD x_1.snd (↑x.fst : Int).toNat (List.replicate (5 : Nat) (0 : Int))).getD (↑x_1.fst : Int).toNat (0 : Int) + (1 : Int))))) else false) = true → mpE x_1.snd (0 : Nat) = mpE x_1.snd (0 : Nat) ∧ List.length x_1.snd < (1000000000 : Nat) ∧ ∀ (n : Int) (b : Bool), inK IntKind.i64 ((↑x_1.fst : Int) + (1 : Int)) ∧ ∃ (x_2 : Nat × LL), ((x_2.fst ≤ t.fst.toNat ∧ (↑x.fst : Int).toNat < List.length x_2.snd) ∧ foundP t x_2.snd ∧ closedTo t x_2.snd (↑x.fst : Int).toNat ∧ closedAt t x_2.snd (↑x.fst : Int).toNat x_2.fst) ∧ t.fst.toNat - x_2.fst < t.fst.toNat - x_1.fst ∧ (([] : List Nat) = [] ∧ ((if cutE t (List.replicate (Int.toNat t.fst) (0 : Int)) = (0 : Int) then rowsT t (Int.toNat t.fst) else []) = if cutE t (List.replicate (Int.toNat t.fst) (0 : Int)) = (0 : Int) then rowsT t (Int.toNat t.fst) else []) ∧ True ∧ (↑x.fst : Int) = (↑x.fst : Int) ∧ t.fst = t.fst ∧ (↑x_1.fst : Int) + (1 : Int) = (↑x_2.fst : Int) ∧ True) ∧ (((24 : Nat) = (24 : Nat) ∧ t = t) ∧ (True ∧ True ∧ True) ∧ ((5 : Nat) = (5 : Nat) ∧ mpE (addL x_1.snd ((List.getD x_1.snd (↑x.fst : Int).toNat (List.replicate (5 : Nat) (0 : Int))).set (↑x_1.fst : Int).toNat ((List.getD x_1.snd (↑x.fst : Int).toNat (List.replicate (5 : Nat) (0 : Int))).getD (↑x_1.fst : Int).toNat (0 : Int) + (1 : Int)))) (0 : Nat) = mpE x_2.snd (0 : Nat)) ∧ ((74 : Nat) = (74 : Nat) ∧ addL x_1.snd ((List.getD x_1.snd (↑x.fst : Int).toNat (List.replicate (5 : Nat) (0 : Int))).set (↑x_1.fst : Int).toNat ((List.getD x_1.snd (↑x.fst : Int).toNat (List.replicate (5 : Nat) (0 : Int))).getD (↑x_1.fst : Int).toNat (0 : Int) + (1 : Int))) = x_2.snd) ∧ True) ∧ tabD = tabD ∧ True) ∧ ((if cutE t (List.drop (Int.toNat (0 : Int)) (List.take (Int.toNat t.fst) ((List.getD x_1.snd (↑x.fst : Int).toNat (List.replicate (5 : Nat) (0 : Int))).set (↑x_1.fst : Int).toNat ((List.getD x_1.snd (↑x.fst : Int).toNat (List.replicate (5 : Nat) (0 : Int))).getD (↑x_1.fst : Int).toNat (0 : Int) + (1 : Int))))) = (0 : Int) then wholeB t (List.drop (Int.toNat (0 : Int)) (List.take (Int.toNat t.fst) ((List.getD x_1.snd (↑x.fst : Int).toNat (List.replicate (5 : Nat) (0 : Int))).set (↑x_1.fst : Int).toNat ((List.getD x_1.snd (↑x.fst : Int).toNat (List.replicate (5 : Nat) (0 : Int))).getD (↑x_1.fst : Int).toNat (0 : Int) + (1 : Int))))) else false) = false → inK IntKind.i64 ((↑x_1.fst : Int) + (1 : Int)) ∧ ∃ (x_2 : Nat × LL), ((x_2.fst ≤ t.fst.toNat ∧ (↑x.fst : Int).toNat < List.length x_2.snd) ∧ foundP t x_2.snd ∧ closedTo t x_2.snd (↑x.fst : Int).toNat ∧ closedAt t x_2.snd (↑x.fst : Int).toNat x_2.fst) ∧ t.fst.toNat - x_2.fst < t.fst.toNat - x_1.fst ∧ (([] : List Nat) = [] ∧ ((if cutE t (List.replicate (Int.toNat t.fst) (0 : Int)) = (0 : Int) then rowsT t (Int.toNat t.fst) else []) = if cutE t (List.replicate (Int.toNat t.fst) (0 : Int)) = (0 : Int) then rowsT t (Int.toNat t.fst) else []) ∧ True ∧ (↑x.fst : Int) = (↑x.fst : Int) ∧ t.fst = t.fst ∧ (↑x_1.fst : Int) + (1 : Int) = (↑x_2.fst : Int) ∧ True) ∧ (((24 : Nat) = (24 : Nat) ∧ t = t) ∧ (True ∧ True ∧ True) ∧ ((5 : Nat) = (5 : Nat) ∧ mpE x_1.snd (0 : Nat) = mpE x_2.snd (0 : Nat)) ∧ ((74 : Nat) = (74 : Nat) ∧ x_1.snd = x_2.snd) ∧ True) ∧ tabD = tabD ∧ True)))) ∧ (decide ((↑x_1.fst : Int) < t.fst) = false → inK IntKind.i64 ((↑x.fst : Int) + (1 : Int)) ∧ ∃ (x_2 : Nat × LL), ((chk t = (0 : Int) ∧ x_2.fst ≤ List.length x_2.snd) ∧ foundP t x_2.snd ∧ closedTo t x_2.snd x_2.fst) ∧ countW t + (1 : Nat) - x_2.fst < countW t + (1 : Nat) - x.fst ∧ (([] : List Nat) = [] ∧ ((if cutE t (List.replicate (Int.toNat t.fst) (0 : Int)) = (0 : Int) then rowsT t (Int.toNat t.fst) else []) = if cutE t (List.replicate (Int.toNat t.fst) (0 : Int)) = (0 : Int) then rowsT t (Int.toNat t.fst) else []) ∧ True ∧ (↑x.fst : Int) + (1 : Int) = (↑x_2.fst : Int) ∧ True) ∧ (((24 : Nat) = (24 : Nat) ∧ t = t) ∧ (True ∧ True ∧ True) ∧ ((5 : Nat) = (5 : Nat) ∧ mpE x_1.snd (0 : Nat) = mpE x_2.snd (0 : Nat)) ∧ ((74 : Nat) = (74 : Nat) ∧ x_1.snd = x_2.snd) ∧ True) ∧ tabD = tabD ∧ True)) ∧ (decide ((↑x.fst : Int) < (↑(List.length x.snd) : Int)) = false → mpE x.snd (0 : Nat) = mpE x.snd (0 : Nat) ∧ k [Dat.mk (I) (↑(List.length x.snd) : Int), Dat.mk (Ty.err (71 : Nat)) (0 : Int)])))) := by kernel_rfl
end Go.Proofs.YtbpoeigaoakdiaaDoor

/- The queue of things that are found; how many whole cuts there are: the functions keep their contracts. -/
namespace Go.Proofs.YtbpoeigaoakdiaaDoor.H
open Go.Vc

theorem mpE_some : ∀ (L : LL) (n : Nat) (c : List Int), (mpGet (mpE L n) c).isSome = true ↔ c ∈ L
  | [], n, c => by simp [mpE, mpGet]
  | x :: r, n, c => by
    have ih := mpE_some r (n + 1) c
    simp only [mpE, mpGet, List.mem_cons]
    by_cases h : x = c
    · simp [h]
    · rw [if_neg h, ih]
      constructor
      · exact .inr
      · rintro (e | e)
        · exact absurd e.symm h
        · exact e
theorem mpE_put : ∀ (L : LL) (n : Nat) (c : List Int), c ∉ L → mpPut (mpE L n) c ((n + L.length : Nat) : Int) = mpE (L ++ [c]) n
  | [], n, c, _ => by simp [mpE, mpPut]
  | x :: r, n, c, h => by
    have ih := mpE_put r (n + 1) c fun e => h (List.mem_cons_of_mem _ e)
    have hx : x ≠ c := fun e => h (e ▸ List.mem_cons_self ..)
    simp only [mpE, mpPut, List.cons_append]
    rw [if_neg hx]
    rw [show n + (x :: r).length = n + 1 + r.length by simp; omega, ih]
theorem addL_in {L : LL} {c : List Int} (h : c ∈ L) : addL L c = L := by unfold addL; rw [if_pos (List.contains_iff_mem.2 h)]
theorem addL_out {L : LL} {c : List Int} (h : c ∉ L) : addL L c = L ++ [c] := by unfold addL; rw [if_neg (fun e => h (List.contains_iff_mem.1 e))]
theorem addL_mem {L : LL} {c x : List Int} : x ∈ addL L c ↔ x ∈ L ∨ x = c := by
  by_cases h : c ∈ L
  · rw [addL_in h]
    constructor
    · exact .inl
    · rintro (e | e)
      · exact e
      · rw [e]; exact h
  · rw [addL_out h]; simp
theorem addL_nodup {L : LL} (hL : L.Nodup) (c : List Int) : (addL L c).Nodup := by
  by_cases h : c ∈ L
  · rw [addL_in h]; exact hL
  · rw [addL_out h, List.nodup_iff_pairwise_ne, List.pairwise_append]
    refine ⟨List.nodup_iff_pairwise_ne.1 hL, by simp, fun a ha b hb e => ?_⟩
    rw [List.mem_singleton] at hb
    subst hb; subst e; exact h ha
theorem addL_at {L : LL} {c : List Int} {i : Nat} (h : i < L.length) (z : List Int) : (addL L c).getD i z = L.getD i z := by
  by_cases hc : c ∈ L
  · rw [addL_in hc]
  · rw [addL_out hc, List.getD_eq_getElem?_getD, List.getD_eq_getElem?_getD, List.getElem?_append_left h]
theorem addL_len (L : LL) (c : List Int) : L.length ≤ (addL L c).length := by
  by_cases hc : c ∈ L
  · rw [addL_in hc]; exact Nat.le_refl _
  · rw [addL_out hc, List.length_append]; omega

theorem add0_vc (c : List Int) (k : SV → List Ob → Prop) (hk : ∀ (n : Int) (b : Bool), k (ans2 n b) (qOb [c])) : vcO ⟨Eq, [], glT, [], []⟩ [joinAll] (Tryd.f53.body.getD .skip) Tryd.f53.ntmps [(.tmp 4, I), (.tmp 5, .bool)] [.ps 0, .d tK c] q0 k := by
  rw [vcAdd0]
  refine ⟨fun h => (by cases h), fun _ => ⟨trivial, trivial, by simp, by rw [inK_i64]; simp, ?_⟩⟩
  exact hk 0 true
theorem add1_vc (c : List Int) (L : LL) (hl : L.length < 1000000000) (k : SV → List Ob → Prop) (hk : ∀ (n : Int) (b : Bool), k (ans2 n b) (qOb (addL L c))) : vcO ⟨Eq, [], glT, [], []⟩ [joinAll] (Tryd.f53.body.getD .skip) Tryd.f53.ntmps [(.tmp 4, I), (.tmp 5, .bool)] [.ps 0, .d tK c] (qOb L) k := by
  rw [vcAdd1]
  refine ⟨fun h => ?_, fun h => ⟨trivial, trivial, ?_, ?_, ?_⟩⟩
  · have h1 := (mpE_some L 0 c).1 h
    rw [addL_in h1] at hk
    exact hk _ _
  · simp; omega
  · rw [inK_i64]; simp; omega
  · have h1 : c ∉ L := fun e => by rw [(mpE_some L 0 c).2 e] at h; cases h
    rw [addL_out h1] at hk
    have h2 := mpE_put L 0 c h1
    rw [Nat.zero_add] at h2
    rw [h2]
    exact hk _ _
theorem ownAdd : OwnOk Tryd.prog glT 53 oAdd := by
  refine own_of (CxOk.mk' Eq_ok (by kernel_rfl) mixed (gl := glT) GOk.nil GoOk.nil noIt) Tryd.func53 (c := Tryd.f53.body.getD .skip) (rvs := [(.tmp 4, I), (.tmp 5, .bool)]) (by kernel_rfl) (by kernel_rfl) (by kernel_rfl) ?_
  intro args ob k h w1 w2
  clear w1 w2
  unfold oAdd at h
  split at h
  · rename_i c es L
    obtain ⟨rfl, hl, hk⟩ := h
    exact ⟨[joinAll], add1_vc c L hl k hk⟩
  · rename_i c u
    exact ⟨[joinAll], add0_vc c k h⟩
  · exact h.elim
theorem ownLen : OwnOk Tryd.prog glT 54 oLen := by
  refine own_of (CxOk.mk' Eq_ok (by kernel_rfl) mixed (gl := glT) GOk.nil GoOk.nil noIt) Tryd.func54 (c := Tryd.f54.body.getD .skip) (rvs := [(.tmp 2, I)]) (by kernel_rfl) (by kernel_rfl) (by kernel_rfl) ?_
  intro args ob k h w1 w2
  clear w1 w2
  unfold oLen at h
  split at h
  · rename_i es L
    obtain ⟨rfl, hk⟩ := h
    refine ⟨[joinAll], ?_⟩
    have e := vcLen L k
    exact e.symm ▸ hk
  · exact h.elim
theorem ownAt : OwnOk Tryd.prog glT 55 oAt := by
  refine own_of (CxOk.mk' Eq_ok (by kernel_rfl) mixed (gl := glT) GOk.nil GoOk.nil noIt) Tryd.func55 (c := Tryd.f55.body.getD .skip) (rvs := [(.cell 4 74, tK)]) (by kernel_rfl) (by kernel_rfl) (by kernel_rfl) ?_
  intro args ob k h w1 w2
  clear w1 w2
  unfold oAt at h
  split at h
  · rename_i i es L
    obtain ⟨rfl, h1, h2, hk⟩ := h
    refine ⟨[joinAll], ?_⟩
    have e := vcAt L i k
    exact e.symm ▸ ⟨h1, h2, hk⟩
  · exact h.elim

theorem rowsT_at {t : Tr} {p : Nat} (h : p < t.1.toNat) : (rowsT t t.1.toNat).getD p [] = ofT t (p : Int) := rowsT_getD t h
theorem zero_cut {t : Tr} (h : chk t = 0) : cutE t (List.replicate t.1.toNat 0) = 0 := by
  have := (zero_five h).2.1.1
  have hpr := (good_of h).procs
  rw [List.take_replicate, Nat.min_eq_left (by omega)] at this
  exact this
theorem stepOk_mono {t : Tr} {L : LL} {c y : List Int} {p : Nat} (h : stepOk t L y p) : stepOk t (addL L c) y p := fun h1 h2 => addL_mem.2 (.inl (h h1 h2))
theorem count_vc (t : Tr) (k : List Dat → Prop) (hk : k [⟨I, if chk t = 0 then (countW t : Int) else 0⟩, ⟨tErr, chk t⟩]) :
    vcF ⟨Eq, [(10, cCheck), (52, cOfs), (32, cIs)], glT, [], [(53, oAdd), (54, oLen), (55, oAt)]⟩ (anCount t) (Tryd.f25.body.getD .skip) Tryd.f25.ntmps [(.tmp 2, I), (.tmp 3, tErr)] [⟨tTr, t⟩] k := by
  rw [vcCount]
  by_cases h : chk t = 0
  · have hpr := (good_of h).procs
    have hz := zero_cut h
    rw [if_pos h, h] at hk
    have hcw : countW t ≤ 25 ^ 5 := by
      refine Nat.le_trans countW_le (Nat.le_trans (prodL_le h _ _) ?_)
      exact Nat.pow_le_pow_right (by decide) (by omega)
    have hcw : countW t ≤ 9765625 := hcw
    have ht1 : ((t.1.toNat : Nat) : Int) = t.1 := by omega
    have ht5 : t.1.toNat ≤ 5 := by omega
    simp only [hz, if_true, decide_true, Bool.not_true, Bool.not_false, Bool.false_eq_true, Bool.true_eq_false, false_implies, forall_const, true_and, and_true, h, decide_eq_true_eq, decide_eq_false_iff_not, Int.toNat_natCast, inK_i64, Int.toNat_zero, List.drop_zero, rowsT_len, Bool.not_eq_true', Bool.not_eq_false']
    have z5 := zero_five h
    refine ⟨by omega, ⟨(0, [List.replicate 5 0]), ⟨Nat.zero_le _, ⟨by simp, fun y hy => by rw [List.mem_singleton] at hy; rw [hy]; exact z5, List.mem_singleton.2 rfl⟩, fun i hi => absurd hi (Nat.not_lt_zero _)⟩, rfl, rfl, rfl⟩, ?_⟩
    rintro ⟨a, L⟩ ⟨ha, hF, hC⟩
    dsimp only at ha hF hC ⊢
    refine ⟨fun hlt => ⟨⟨(0, L), ⟨⟨Nat.zero_le _, by show a < L.length; omega⟩, hF, hC, fun p hp => absurd hp (Nat.not_lt_zero _)⟩, rfl, rfl, rfl⟩, ?_⟩, fun hge => ?_⟩
    · clear hF hC hlt ha
      rintro ⟨p, M⟩ ⟨⟨hp, ham⟩, hF, hC, hA⟩
      dsimp only at hp ham hF hC hA ⊢
      refine ⟨fun hpl => ?_, fun hpl => ?_⟩
      · have hpn : p < t.1.toNat := by omega
        have hMl := found_le h hF.nd hF.five
        have ey : M.getD a (List.replicate 5 0) = M.getD a [] := by
          rw [List.getD_eq_getElem?_getD, List.getD_eq_getElem?_getD, List.getElem?_eq_getElem ham]; rfl
        rw [ey, rowsT_at hpn]
        have hym : M.getD a [] ∈ M := by rw [List.getD_eq_getElem?_getD, List.getElem?_eq_getElem ham]; exact List.getElem_mem ham
        generalize hY : M.getD a [] = y at hym
        have hy := hF.five y hym
        obtain ⟨_, hcl, hcb⟩ := cut_ok hy.2.1.1
        have hb := hcb p (by omega)
        rw [getD_take hpn] at hb
        have hl24 := lenT_le h p
        have hl24' : (ofT t (p : Int)).length ≤ 24 := hl24
        have e1 : (y.set p (y.getD p 0 + 1)).getD p 0 = y.getD p 0 + 1 := by rw [getD_set_eq (by rw [hy.1]; omega), if_pos rfl]
        rw [e1]
        refine ⟨by omega, by omega, by omega, by omega, by omega, by omega, by omega, by omega, fun hbig => ⟨by omega, (p + 1, M), ⟨⟨hpn, ham⟩, hF, hC, fun q hq => ?_⟩, by show t.1.toNat - (p + 1) < _; omega, rfl, rfl, rfl⟩, fun hsm => ⟨by omega, ?_⟩⟩
        · by_cases hqp : q = p
          · subst hqp
            rw [hY]
            intro h1 _
            have h1 : y.getD q 0 + 1 ≤ ((ofT t (q : Int)).length : Int) := h1
            omega
          · exact hA q (by omega)
        · have hcz : cutE t ((y.set p (y.getD p 0 + 1)).take t.1.toNat) = 0 := by
            refine cut_mk h (by rw [List.length_take, List.length_set, hy.1]; omega) fun q hq => ?_
            rw [List.length_take, List.length_set, hy.1] at hq
            rw [getD_take (by omega), getD_set_eq (by rw [hy.1]; omega)]
            split
            · rename_i e; subst e; omega
            · have := hcb q (by omega)
              rw [getD_take (by omega)] at this
              exact this
          simp only [hcz, if_true, not_true_eq_false, false_implies, forall_const, true_and]
          refine ⟨fun hw => ⟨by omega, by omega, (p + 1, addL M (y.set p (y.getD p 0 + 1))), ⟨⟨hpn, ?_⟩, ⟨addL_nodup hF.nd _, fun x hx => ?_, addL_mem.2 (.inl hF.zero)⟩, fun i hi q hq => ?_, fun q hq => ?_⟩, by show t.1.toNat - (p + 1) < _; omega, rfl, rfl, rfl⟩,
            fun hw => ⟨by omega, (p + 1, M), ⟨⟨hpn, ham⟩, hF, hC, fun q hq => ?_⟩, by show t.1.toNat - (p + 1) < _; omega, rfl, rfl, rfl⟩⟩
          · exact Nat.lt_of_lt_of_le ham (addL_len _ _)
          · rcases addL_mem.1 hx with hx | hx
            · exact hF.five x hx
            · rw [hx]; exact five_step hy hpn ht5 ⟨hcz, hw⟩
          · rw [addL_at (by omega)]
            exact stepOk_mono (hC i hi q hq)
          · rw [addL_at ham]
            by_cases hqp : q = p
            · subst hqp
              rw [hY]
              exact fun _ _ => addL_mem.2 (.inr rfl)
            · exact stepOk_mono (hA q (by omega))
          · by_cases hqp : q = p
            · subst hqp
              rw [hY]
              intro _ h2
              rw [hw] at h2; cases h2
            · exact hA q (by omega)
      · have hpe : p = t.1.toNat := by omega
        have hMl := found_le h hF.nd hF.five
        refine ⟨by omega, (a + 1, M), ⟨ham, hF, fun i hi q hq => ?_⟩, by show countW t + 1 - (a + 1) < _; omega, rfl, rfl, rfl⟩
        by_cases hia : i = a
        · subst hia; exact hA q (by omega)
        · exact hC i (by omega) q hq
    · have hal : a = L.length := by omega
      rw [found_all h hF.nd hF.five hF.zero fun y hy p hp h1 h2 => by
        obtain ⟨i, hi⟩ := List.getElem?_of_mem hy
        have hil := (List.getElem?_eq_some_iff.1 hi).1
        have := hC i (by omega) p hp
        rw [List.getD_eq_getElem?_getD, hi] at this
        exact this h1 h2]
      exact hk
  · rw [if_neg h] at hk
    refine ⟨trivial, fun _ => hk, fun e => ?_⟩
    rw [decide_eq_false h] at e
    cases e
theorem okCount : PlainOk Tryd.prog glT 25 cCount := by
  refine plain_of (CxOk.mk' Eq_ok (by kernel_rfl) mixed (gl := glT) (GOk.cons (lift okCheck) Tryd.func10 (by kernel_rfl) (by kernel_rfl) (GOk.cons okOfs Tryd.func52 (by kernel_rfl) (by kernel_rfl) (GOk.cons okIs Tryd.func32 (by kernel_rfl) (by kernel_rfl) GOk.nil))) (GoOk.cons ownAdd Tryd.func53 (by kernel_rfl) (by kernel_rfl) (GoOk.cons ownLen Tryd.func54 (by kernel_rfl) (by kernel_rfl) (GoOk.cons ownAt Tryd.func55 (by kernel_rfl) (by kernel_rfl) GoOk.nil))) noIt) Tryd.func25 (c := Tryd.f25.body.getD .skip) (rvs := [(.tmp 2, I), (.tmp 3, tErr)]) (by kernel_rfl) (by kernel_rfl) (by kernel_rfl) ?_
  intro ds k ⟨hp, hk⟩ hwf
  obtain ⟨t, rfl, -⟩ := dest1 hp
  exact ⟨anCount t, count_vc t k hk⟩
end Go.Proofs.YtbpoeigaoakdiaaDoor.H

/- Cuts: the document's functions keep their contracts; the laws. -/
namespace Go.Proofs.YtbpoeigaoakdiaaDoor.H
open Go.Vc

theorem pow_small {m : Nat} (h : m ≤ 24) : (2 : Int) ^ m ≤ 16777216 := by
  have : 2 ^ m ≤ 2 ^ 24 := Nat.pow_le_pow_right (by decide) h
  have e : ((2 ^ m : Nat) : Int) = (2 : Int) ^ m := by rw [Int.natCast_pow]; rfl
  omega
theorem rset_vc (t : Tr) (c : List Int) (hc : cutE t c = 0) (k : List Dat → Prop) (hk : k [⟨I, (setN t c : Int)⟩]) :
    vcF ⟨Ez, [(47, cNth), (56, cPow2)], [], [], []⟩ (anRSet t c) (Tryd.f28.body.getD .skip) Tryd.f28.ntmps [(.tmp 4, I)] [⟨tTr, t⟩, ⟨.sl I, c⟩] k := by
  rw [vcRSet]
  obtain ⟨h, hl, hb⟩ := cut_ok hc
  have gg := good_of h
  have hlen := gg.len
  have hpr := gg.procs
  simp only [decide_eq_true_eq, decide_eq_false_iff_not, and_true, true_and, Int.toNat_natCast, inK_i64]
  refine ⟨⟨0, Nat.zero_le _, rfl, rfl⟩, fun x hx => ⟨fun hlt => ?_, fun hge => ?_⟩⟩
  · have hev := gg.ev x (by omega)
    obtain ⟨s, e, hs, _⟩ := setI_spec (t := t) (c := c) x
    have hp := pow_small (m := x) (by omega)
    have hp0 := two_pow_pos x
    have e2 : ((2 ^ x : Nat) : Int) = (2 : Int) ^ x := by rw [Int.natCast_pow]; rfl
    refine ⟨⟨⟨by omega, by omega⟩, by omega, hlt, by omega, by omega⟩, fun hn => ⟨by omega, by omega, by omega, x + 1, by omega, by omega, ?_, rfl⟩, fun hn => ⟨by omega, x + 1, by omega, by omega, ?_, rfl⟩⟩
    · rw [setI, if_pos (show inC t c x = true from decide_eq_true hn)]
    · rw [setI, if_neg (show ¬ inC t c x = true from fun e => hn (of_decide_eq_true e))]
  · have : x = t.2.1.length := by omega
    rw [this, setI_all hc]; exact hk
theorem okRSet : PlainOk Tryd.prog [] 28 cRSet := by
  refine plain_of (CxOk.mk' Ez_ok (by kernel_rfl) mixed (gl := []) (GOk.cons okNth Tryd.func47 (by kernel_rfl) (by kernel_rfl) (GOk.cons okPow2 Tryd.func56 (by kernel_rfl) (by kernel_rfl) GOk.nil)) GoOk.nil noIt) Tryd.func28 (c := Tryd.f28.body.getD .skip) (rvs := [(.tmp 4, I)]) (by kernel_rfl) (by kernel_rfl) (by kernel_rfl) ?_
  intro ds k ⟨hp, hk⟩ hwf
  obtain ⟨t, c, rfl, hc, -⟩ := dest2 hp
  exact ⟨anRSet t c, rset_vc t c hc k hk⟩

theorem rwhole_vc (t : Tr) (c : List Int) (hc : cutE t c = 0) (k : List Dat → Prop) (hk : k [⟨.bool, wholeB t c⟩]) :
    vcF ⟨Ez, [(28, cRSet), (49, cBit)], [], [], []⟩ (anRWhole t c) (Tryd.f29.body.getD .skip) Tryd.f29.ntmps [(.tmp 4, .bool)] [⟨tTr, t⟩, ⟨.sl I, c⟩] k := by
  rw [vcRWhole]
  have hlen := (good_of (cut_ok hc).1).len
  have hwf := whole_from hc
  simp only [decide_eq_true_eq, decide_eq_false_iff_not, and_true, true_and, Int.toNat_natCast, inK_i64, Bool.not_eq_true', Bool.not_eq_false']
  refine ⟨hc, ⟨0, ⟨Nat.zero_le _, fun m hm => absurd hm (Nat.not_lt_zero _)⟩, rfl⟩, fun x ⟨hx, hall⟩ => ⟨fun hlt => ?_, fun hge => ?_⟩⟩
  · have nxt : fromB t (setN t c : Int) x = true → (-9223372036854775808 ≤ (x : Int) + 1 ∧ (x : Int) + 1 ≤ 9223372036854775807) ∧ ∃ x_1 : Nat, (x_1 ≤ t.2.1.length ∧ ∀ m, m < x_1 → fromB t (setN t c : Int) m = true) ∧ t.2.1.length - x_1 < t.2.1.length - x ∧ (x : Int) + 1 = (x_1 : Int) := fun hf =>
      ⟨by omega, x + 1, ⟨by omega, fun m hm => by
        by_cases hmx : m = x
        · subst hmx; exact hf
        · exact hall m (by omega)⟩, by omega, rfl⟩
    refine ⟨fun hb => ⟨by omega, hlt, fun hf => ⟨by omega, hlt, fun hn => ?_, fun hn => nxt ?_⟩, fun hf => nxt ?_⟩, fun hb => nxt ?_⟩
    · have : wholeB t c = false := by
        cases hw : wholeB t c with
        | false => rfl
        | true =>
          have := hwf.1 hw x (by omega)
          unfold fromB evA at this
          rw [hb, hn, decide_eq_false (by omega)] at this
          cases this
      rw [this] at hk; exact hk
    · unfold fromB evA; rw [hn]; simp
    · unfold fromB evA; rw [decide_eq_true (by omega)]; simp
    · unfold fromB; rw [hb]; rfl
  · have : x = t.2.1.length := by omega
    subst this
    rw [hwf.2 hall] at hk; exact hk
theorem okRWhole : PlainOk Tryd.prog [] 29 cRWhole := by
  refine plain_of (CxOk.mk' Ez_ok (by kernel_rfl) mixed (gl := []) (GOk.cons okRSet Tryd.func28 (by kernel_rfl) (by kernel_rfl) (GOk.cons okBit Tryd.func49 (by kernel_rfl) (by kernel_rfl) GOk.nil)) GoOk.nil noIt) Tryd.func29 (c := Tryd.f29.body.getD .skip) (rvs := [(.tmp 4, .bool)]) (by kernel_rfl) (by kernel_rfl) (by kernel_rfl) ?_
  intro ds k ⟨hp, hk⟩ hwf
  obtain ⟨t, c, rfl, hc, -⟩ := dest2 hp
  exact ⟨anRWhole t c, rwhole_vc t c hc k hk⟩

theorem cut0_cut {t : Tr} {c : List Int} : (cut0 t c ≠ 0 → cutE t c = cut0 t c) ∧ (cut0 t c = 0 → chk t = 0 ∧ (c.length : Int) = t.1) := by
  unfold cut0 cutE
  by_cases h : chk t = 0
  · by_cases hl : (c.length : Int) = t.1
    · rw [if_neg (fun e => e.2 hl), h]
      exact ⟨fun e => absurd rfl e, fun _ => ⟨rfl, hl⟩⟩
    · rw [if_pos ⟨h, hl⟩, if_pos h, if_neg hl]
      exact ⟨fun _ => rfl, fun e => by cases e⟩
  · rw [if_neg (fun e => h e.1), if_neg h]
    exact ⟨fun _ => rfl, fun e => absurd e h⟩
theorem cutE_of {t : Tr} {c : List Int} (h : cut0 t c = 0) : cutE t c = if cutOk t c = true then 0 else 1 := by
  obtain ⟨h1, h2⟩ := cut0_cut.2 h
  unfold cutE
  rw [if_pos h1, if_pos h2]
theorem cutOk_iff {t : Tr} {c : List Int} : cutOk t c = true ↔ ∀ p, p < c.length → inB (c.getD p 0) 0 (lenT t p : Int) = true := by
  unfold cutOk lenT
  rw [List.all_eq_true]
  exact ⟨fun h p hp => h p (List.mem_range.2 hp), fun h p hp => h p (List.mem_range.1 hp)⟩
theorem rcut_vc (t : Tr) (c : List Int) (hcl : c.length ≤ maxLen) (k : List Dat → Prop) (hk : k [⟨I, cutE t c⟩]) :
    vcF ⟨Ez, [(8, cRTrace), (12, cROf), (42, cWithin)], [], [], []⟩ (anRCut t c) (Tryd.f27.body.getD .skip) Tryd.f27.ntmps [(.tmp 4, I)] [⟨tTr, t⟩, ⟨.sl I, c⟩] k := by
  rw [vcRCut]
  have hml : maxLen ≤ 9223372036854775807 := by decide
  simp only [decide_eq_true_eq, decide_eq_false_iff_not, and_true, true_and, Int.toNat_natCast, inK_i64, Bool.not_eq_true', Bool.not_eq_false']
  refine ⟨⟨fun h => ⟨fun hl => ⟨_, rfl, ?_⟩, fun hl => ⟨_, rfl, ?_⟩⟩, fun h => ⟨_, rfl, ?_⟩⟩, fun x hx => ⟨⟨(0, x), ⟨Nat.zero_le _, fun e => ⟨by rw [← hx]; exact e, fun p hp => absurd hp (Nat.not_lt_zero _)⟩, fun e => ?_⟩, rfl, rfl⟩, ?_⟩⟩
  · unfold cut0; rw [if_pos ⟨h, hl⟩]
  · unfold cut0; rw [if_neg (fun e => e.2 hl)]
  · unfold cut0; rw [if_neg (fun e => h e.1)]
  · show cutE t c = x
    rw [hx]
    refine cut0_cut.1 ?_
    rw [← hx]; exact e
  · rintro ⟨p, e⟩ ⟨hp, h1, h2⟩
    dsimp only at hp h1 h2 ⊢
    refine ⟨fun hlt => ⟨fun he => ?_, fun he => ?_⟩, fun hge => ?_⟩
    · obtain ⟨a1, a2⟩ := h1 he
      obtain ⟨b1, b2⟩ := cut0_cut.2 a1
      refine ⟨⟨by omega, hlt, b1⟩, fun hn => ⟨by omega, (p + 1, 1), ⟨by show p + 1 ≤ _; omega, fun (e : (1 : Int) = 0) => absurd e (by decide), fun _ => ?_⟩, by show c.length - (p + 1) < _; omega, rfl, rfl⟩, fun hn => ⟨by omega, (p + 1, e), ⟨by show p + 1 ≤ _; omega, fun _ => ⟨a1, fun q hq => ?_⟩, fun e' => absurd he e'⟩, by show c.length - (p + 1) < _; omega, rfl, rfl⟩⟩
      · show cutE t c = 1
        rw [cutE_of a1, if_neg]
        intro hok
        have := cutOk_iff.1 hok p (by omega)
        unfold lenT at this
        rw [hn] at this; cases this
      · by_cases hqp : q = p
        · subst hqp; exact hn
        · exact a2 q (by have hq : q < p + 1 := hq; omega)
    · rw [h2 he] at hk; exact hk
    · by_cases he : e = 0
      · obtain ⟨a1, a2⟩ := h1 he
        have : cutE t c = e := by
          rw [cutE_of a1, if_pos (cutOk_iff.2 fun q hq => a2 q (by omega)), he]
        rw [this] at hk; exact hk
      · rw [h2 he] at hk; exact hk
theorem okRCut : PlainOk Tryd.prog [] 27 cRCut := by
  refine plain_of (CxOk.mk' Ez_ok (by kernel_rfl) mixed (gl := []) (GOk.cons okRTrace Tryd.func8 (by kernel_rfl) (by kernel_rfl) (GOk.cons okROf Tryd.func12 (by kernel_rfl) (by kernel_rfl) (GOk.cons okRIn Tryd.func42 (by kernel_rfl) (by kernel_rfl) GOk.nil))) GoOk.nil noIt) Tryd.func27 (c := Tryd.f27.body.getD .skip) (rvs := [(.tmp 4, I)]) (by kernel_rfl) (by kernel_rfl) (by kernel_rfl) ?_
  intro ds k ⟨hp, hk⟩ hwf
  obtain ⟨t, c, rfl, -⟩ := dest2 hp
  exact ⟨anRCut t c, rcut_vc t c (wf2 hwf).2.1 k hk⟩

theorem rline_vc (t : Tr) (c : List Int) (hc : cutE t c = 0) (k : List Dat → Prop) (hk : k [⟨.sl I, lineR t c⟩]) :
    vcF ⟨Ez, [(11, cRBefore), (28, cRSet), (49, cBit), (57, cSub)], [], [], []⟩ (anRLine t c) (Tryd.f30.body.getD .skip) Tryd.f30.ntmps [(.tmp 4, .sl I)] [⟨tTr, t⟩, ⟨.sl I, c⟩] k := by
  rw [vcRLine]
  obtain ⟨h, hl, hb⟩ := cut_ok hc
  have gg := good_of h
  have hlen := gg.len
  have hpr := gg.procs
  simp only [decide_eq_true_eq, decide_eq_false_iff_not, and_true, true_and, Int.toNat_natCast, inK_i64, bef_lenI, lnR_len]
  refine ⟨h, hc, by omega, by omega, by omega, ⟨0, Nat.zero_le _, rfl, ?_⟩, fun x hx => ⟨fun hlt => ?_, fun hge => ?_⟩⟩
  · unfold lnR lnU
    refine List.ext_getElem (by simp) fun q h1 h2 => by simp
  · have hev := gg.ev x (by omega)
    have hpp : prc t.2.1 x < t.1.toNat := by unfold prc; omega
    have hle := lnU_le t c (prc t.2.1 x) x
    have hat := lnR_at (t := t) (c := c) (m := x) hpp
    unfold prc at hat hle
    refine ⟨fun h1 => ⟨by omega, hlt, fun h2 => ⟨by omega, hlt, by omega, by omega, ?_, by omega, by omega, by omega, x + 1, by omega, by omega, rfl, ?_⟩, fun h2 => ⟨by omega, x + 1, by omega, by omega, rfl, ?_⟩⟩, fun h1 => ⟨by omega, x + 1, by omega, by omega, rfl, ?_⟩⟩
    · rw [hat]; omega
    · refine lnR_in ?_ hpp
      unfold lnB; rw [h1, h2]; rfl
    · refine lnR_out ?_
      unfold lnB; rw [h2, Bool.and_false]; exact Bool.false_ne_true
    · refine lnR_out ?_
      unfold lnB; rw [h1]; exact Bool.false_ne_true
  · have : x = t.2.1.length := by omega
    rw [this]; exact hk
theorem okRLine : PlainOk Tryd.prog [] 30 cRLine := by
  refine plain_of (CxOk.mk' Ez_ok (by kernel_rfl) mixed (gl := []) (GOk.cons okRBefore Tryd.func11 (by kernel_rfl) (by kernel_rfl) (GOk.cons okRSet Tryd.func28 (by kernel_rfl) (by kernel_rfl) (GOk.cons okBit Tryd.func49 (by kernel_rfl) (by kernel_rfl) (GOk.cons okSub Tryd.func57 (by kernel_rfl) (by kernel_rfl) GOk.nil)))) GoOk.nil noIt) Tryd.func30 (c := Tryd.f30.body.getD .skip) (rvs := [(.tmp 4, .sl I)]) (by kernel_rfl) (by kernel_rfl) (by kernel_rfl) ?_
  intro ds k ⟨hp, hk⟩ hwf
  obtain ⟨t, c, rfl, hc, -⟩ := dest2 hp
  exact ⟨anRLine t c, rline_vc t c hc k hk⟩

theorem pow25 {n : Nat} (h : n ≤ 6) : 25 ^ n ≤ 244140625 := by
  have : 25 ^ n ≤ 25 ^ 6 := Nat.pow_le_pow_right (by decide) h
  omega
theorem rcuts_vc (d : Nat) (t : Tr) (c : List Int) (h : chk t = 0) (h1 : c.length ≤ t.1.toNat) (h2 : t.1.toNat < c.length + (d + 1)) (h3 : ∀ p, p < c.length → 0 ≤ c.getD p 0 ∧ c.getD p 0 ≤ (lenT t p : Int)) (k : List Dat → Prop) (hk : k [⟨I, (cutsN t (t.1.toNat - c.length) c : Int)⟩]) :
    vcF ⟨Ez, [(12, cROf), (29, cRWhole), (26, cRCuts d)], [], [], []⟩ (anRCuts t c) (Tryd.f26.body.getD .skip) Tryd.f26.ntmps [(.tmp 4, I)] [⟨tTr, t⟩, ⟨.sl I, c⟩] k := by
  rw [vcRCuts]
  have gg := good_of h
  have hpr := gg.procs
  simp only [decide_eq_true_eq, decide_eq_false_iff_not, and_true, true_and, inK_i64]
  refine ⟨fun he => ?_, fun hne => ?_⟩
  · have hz : t.1.toNat - c.length = 0 := by omega
    rw [hz] at hk
    refine ⟨cut_mk h he h3, fun hw => ?_, fun hw => ?_⟩
    · have : cutsN t 0 c = 1 := by unfold cutsN allL; rw [List.filter_cons, if_pos hw]; rfl
      rw [this] at hk; exact hk
    · have : cutsN t 0 c = 0 := by unfold cutsN allL; rw [List.filter_cons, if_neg (by rw [hw]; exact Bool.false_ne_true)]; rfl
      rw [this] at hk; exact hk
  · have hlt : c.length < t.1.toNat := by omega
    have hd : t.1.toNat - c.length = (t.1.toNat - c.length - 1) + 1 := by omega
    refine ⟨⟨0, ⟨Nat.zero_le _, hlt⟩, rfl, rfl⟩, fun x ⟨hx, _⟩ => ⟨h, fun hxl => ?_, fun hxl => ?_⟩⟩
    · have hxl' : x ≤ lenT t c.length := by unfold lenT; omega
      have e1 : c.append ((List.replicate 1 (0 : Int)).set 0 (x : Int)) = c ++ [(x : Int)] := rfl
      have e2 : (c ++ [(x : Int)]).length = c.length + 1 := by simp
      have e3 : t.1.toNat - (c.length + 1) = t.1.toNat - c.length - 1 := by omega
      rw [e1, e2, e3]
      have b1 := cutsU_le h c (t.1.toNat - c.length - 1) hx
      have b2 := cutsN_le h (t.1.toNat - c.length - 1) (c ++ [(x : Int)])
      have p1 := pow25 (n := t.1.toNat - c.length - 1 + 1) (by omega)
      have p2 := pow25 (n := t.1.toNat - c.length - 1) (by omega)
      have hl24 := lenT_le h c.length
      refine ⟨by omega, by simp; omega, ⟨h, ⟨by omega, by omega⟩, fun p hp => ?_⟩, by omega, by omega, x + 1, ⟨by omega, hlt⟩, by omega, ?_, rfl⟩
      · by_cases hpc : p < c.length
        · have := h3 p hpc
          rw [List.getD_eq_getElem?_getD, List.getElem?_append_left hpc, ← List.getD_eq_getElem?_getD]
          exact this
        · have hpe : p = c.length := by omega
          subst hpe
          rw [List.getD_eq_getElem?_getD, List.getElem?_append_right (Nat.le_refl _), Nat.sub_self]
          exact ⟨Int.natCast_nonneg x, Int.ofNat_le.2 hxl'⟩
      · rw [cutsU_succ, Int.natCast_add]
    · have hxe : x = lenT t c.length + 1 := by unfold lenT at hx ⊢; omega
      subst hxe
      rw [hd, ← cutsU_all] at hk
      exact hk
theorem okRCuts : ∀ d, PlainOk Tryd.prog [] 26 (cRCuts d)
  | 0 => by
    intro ds k ⟨hp, hk⟩
    obtain ⟨t, c, rfl, h, ⟨h1, h2⟩, h3⟩ := dest2 hp
    exact absurd h2 (by omega)
  | d + 1 => by
    refine plain_of (CxOk.mk' Ez_ok (by kernel_rfl) mixed (gl := []) (GOk.cons okROf Tryd.func12 (by kernel_rfl) (by kernel_rfl) (GOk.cons okRWhole Tryd.func29 (by kernel_rfl) (by kernel_rfl) (GOk.cons (okRCuts d) Tryd.func26 (by kernel_rfl) (by kernel_rfl) GOk.nil))) GoOk.nil noIt) Tryd.func26 (c := Tryd.f26.body.getD .skip) (rvs := [(.tmp 4, I)]) (by kernel_rfl) (by kernel_rfl) (by kernel_rfl) ?_
    intro ds k ⟨hp, hk⟩ hwf
    obtain ⟨t, c, rfl, h, ⟨h1, h2⟩, h3⟩ := dest2 hp
    exact ⟨anRCuts t c, rcuts_vc d t c h h1 h2 h3 k hk⟩

theorem lawC_vc (t : Tr) (k : List Dat → Prop) (hk : k [⟨.bool, true⟩]) :
    vcF ⟨Ez, [(24, cFact), (25, cCount), (15, cOf)], glT, [], []⟩ (anLawC t) (Tryd.f5.body.getD .skip) Tryd.f5.ntmps [(.tmp 2, .bool)] [⟨tTr, t⟩] k := by
  rw [vcLawC]
  by_cases h : chk t = 0
  · have gg := good_of h
    have hpr := gg.procs
    have hlen := gg.len
    have hge := countW_ge h
    have hle := countW_le (t := t)
    have hU := prodU_L t t.1.toNat 0
    rw [Nat.zero_add, show prodU t 0 = 1 from rfl, Nat.one_mul] at hU
    simp only [h, if_true, decide_true, Bool.not_true, Bool.false_eq_true, false_implies, forall_const, true_and, and_true, decide_eq_true_eq, decide_eq_false_iff_not, inK_i64, Bool.not_eq_true', Bool.not_eq_false']
    have fin : ∀ x : Nat, x ≤ t.1.toNat → ¬ x < t.1.toNat → (-9223372036854775808 ≤ (t.2.1.length : Int) + 1 ∧ (t.2.1.length : Int) + 1 ≤ 9223372036854775807) ∧ ((t.2.1.length : Int) + 1 ≤ (countW t : Int) → k [⟨.bool, decide ((countW t : Int) ≤ (prodU t x : Int))⟩]) ∧ (¬ (t.2.1.length : Int) + 1 ≤ (countW t : Int) → k [⟨.bool, false⟩]) := by
      intro x h1 h2
      have hxe : x = t.1.toNat := by omega
      subst hxe
      refine ⟨by omega, fun _ => ?_, fun e => by omega⟩
      rw [decide_eq_true (by omega)]; exact hk
    refine ⟨⟨0, Nat.zero_le _, rfl, rfl⟩, fun x hx => ⟨fun hlt => ⟨fun h5 => ?_, fun h5 => by omega⟩, fun hge => fin x hx (by omega)⟩⟩
    have ho : ofE t (x : Int) = 0 := by rw [ofE_of hlt]; exact h
    have hl24 := lenT_le h x
    have hl24' : (ofT t (x : Int)).length ≤ 24 := hl24
    have hpu := prodU_le h x
    have p1 := pow25 (n := x) (by omega)
    have p2 := pow25 (n := x + 1) (by omega)
    have hpu2 := prodU_le h (x + 1)
    have e : (prodU t x : Int) * (((ofT t (x : Int)).length : Int) + 1) = (prodU t (x + 1) : Int) := by
      rw [prodU, Int.natCast_mul]; rfl
    simp only [ho, if_true, not_true_eq_false, false_implies, true_and, forall_const, e]
    exact ⟨by omega, by omega, by omega, x + 1, by omega, by omega, rfl, rfl⟩
  · simp only [h, if_false, decide_false, decide_true, Bool.not_true, Bool.not_false, Bool.false_eq_true, Bool.true_eq_false, false_implies, forall_const, true_and, and_true]
    exact hk
theorem okLawC : PlainOk Tryd.prog glT 5 cLawC := by
  refine plain_of (CxOk.mk' Ez_ok (by kernel_rfl) mixed (gl := glT) (GOk.cons okFact Tryd.func24 (by kernel_rfl) (by kernel_rfl) (GOk.cons okCount Tryd.func25 (by kernel_rfl) (by kernel_rfl) (GOk.cons (lift okOf) Tryd.func15 (by kernel_rfl) (by kernel_rfl) GOk.nil))) GoOk.nil noIt) Tryd.func5 (c := Tryd.f5.body.getD .skip) (rvs := [(.tmp 2, .bool)]) (by kernel_rfl) (by kernel_rfl) (by kernel_rfl) ?_
  intro ds k ⟨hp, hk⟩ hwf
  obtain ⟨t, rfl, -⟩ := dest1 hp
  exact ⟨anLawC t, lawC_vc t k hk⟩

theorem cutE_in (t : Tr) (c : List Int) : 0 ≤ cutE t c ∧ cutE t c ≤ 6 := by
  have := chk_in t
  unfold cutE
  repeat' split
  all_goals omega
theorem lawX_vc (t : Tr) (c : List Int) (k : List Dat → Prop) (hk : k [⟨.bool, true⟩]) :
    vcF ⟨Ez, [(8, cRTrace), (9, cError), (14, cInts), (25, cCount), (26, cRCuts 6), (27, cRCut), (28, cRSet), (29, cRWhole), (30, cRLine), (31, cEvents), (32, cIs), (33, cLine)], (glT ++ glE), [], []⟩ (anLawX t c) (Tryd.f6.body.getD .skip) Tryd.f6.ntmps [(.tmp 4, .bool)] [⟨tTr, t⟩, ⟨.sl I, c⟩] k := by
  rw [vcLawX]
  have i1 : inK .i64 (chk t) := inK_i64.2 (by have := chk_in t; omega)
  have i2 : inK .i64 (cutE t c) := inK_i64.2 (by have := cutE_in t c; omega)
  simp only [decide_true, decide_eq_true_eq, decide_eq_false_iff_not, and_true, true_and, exists_const, forall_const, i1, i2, beq_self_eq_true, Bool.true_eq_false, false_implies, List.length_nil, Nat.zero_add, Nat.sub_zero]
  refine ⟨⟨fun h => ⟨⟨h, ⟨Nat.zero_le _, by have := (good_of h).procs; omega⟩, fun p hp => absurd hp (Nat.not_lt_zero _)⟩, ?_⟩, fun h => ?_⟩, ⟨fun h => ⟨h, h, h, ?_, ?_, ?_⟩, fun h => ⟨?_, ?_, ?_⟩⟩, fun l h1 h2 => ?_⟩
  · rw [if_pos h]; rfl
  · rw [if_neg h]
  · unfold setE; rw [if_pos h]
  · unfold lineQ; rw [if_pos h]
  · rw [if_pos h]
  · unfold setE; rw [if_neg h]
  · unfold lineQ; rw [if_neg h]
  · rw [if_neg h]
  · have : l = lineQ t c := by
      unfold lineQ
      by_cases h : cutE t c = 0
      · rw [if_pos h]; exact line_eq (h1 h)
      · rw [if_neg h]; exact h2 h
    rw [this, beq_self_eq_true]; exact hk
theorem subT {f : FuncId} {c : Ctr} (h : PlainOk Tryd.prog glT f c) : PlainOk Tryd.prog (glT ++ glE) f c := PlainOk.sub (fun _ hx => List.mem_append_left _ hx) h
theorem subE {f : FuncId} {c : Ctr} (h : PlainOk Tryd.prog glE f c) : PlainOk Tryd.prog (glT ++ glE) f c := PlainOk.sub (fun _ hx => List.mem_append_right _ hx) h
theorem okLawX : PlainOk Tryd.prog (glT ++ glE) 6 cLawX := by
  refine plain_of (CxOk.mk' Ez_ok (by kernel_rfl) mixed (gl := glT ++ glE) (GOk.cons (lift okRTrace) Tryd.func8 (by kernel_rfl) (by kernel_rfl) (GOk.cons (subE okError) Tryd.func9 (by kernel_rfl) (by kernel_rfl) (GOk.cons (lift okInts) Tryd.func14 (by kernel_rfl) (by kernel_rfl) (GOk.cons (subT okCount) Tryd.func25 (by kernel_rfl) (by kernel_rfl) (GOk.cons (lift (okRCuts 6)) Tryd.func26 (by kernel_rfl) (by kernel_rfl) (GOk.cons (lift okRCut) Tryd.func27 (by kernel_rfl) (by kernel_rfl) (GOk.cons (lift okRSet) Tryd.func28 (by kernel_rfl) (by kernel_rfl) (GOk.cons (lift okRWhole) Tryd.func29 (by kernel_rfl) (by kernel_rfl) (GOk.cons (lift okRLine) Tryd.func30 (by kernel_rfl) (by kernel_rfl) (GOk.cons (subT okEvents) Tryd.func31 (by kernel_rfl) (by kernel_rfl) (GOk.cons (subT okIs) Tryd.func32 (by kernel_rfl) (by kernel_rfl) (GOk.cons (subT okLine) Tryd.func33 (by kernel_rfl) (by kernel_rfl) GOk.nil)))))))))))) GoOk.nil noIt) Tryd.func6 (c := Tryd.f6.body.getD .skip) (rvs := [(.tmp 4, .bool)]) (by kernel_rfl) (by kernel_rfl) (by kernel_rfl) ?_
  intro ds k ⟨hp, hk⟩ hwf
  obtain ⟨t, c, rfl, -⟩ := dest2 hp
  exact ⟨anLawX t c, lawX_vc t c k hk⟩
def Eg : Env := { tys := [(149, .ar 64 (.int .u8))], errT := 71, eqs := [], els := [] }
theorem Eg_ok : EnvOk Tryd.prog Eg := EnvOk.of_list (by kernel_rfl) (by kernel_rfl) (by kernel_rfl)
/-- the table and the handle, as the cards list them -/
theorem glOkC {W : World} (h : laidMetH Tryd.prog Rows.cutCountRow.laid W) : GlOk glT W fun b => b < W.heap.size :=
  gl_of_laidM Eg_ok (n := "math/bits.deBruijn64tab") (T := 149) h (.tail _ (.head _)) (by kernel_rfl) (by kernel_rfl) (by kernel_rfl) (by kernel_rfl) (by decide)
theorem glOkX {W : World} (h : laidMetH Tryd.prog Rows.cutSaysRow.laid W) : GlOk (glT ++ glE) W fun b => b < W.heap.size :=
  GlOk.append (gl_of_laidM Eg_ok (n := "math/bits.deBruijn64tab") (T := 149) h (.tail _ (.head _)) (by kernel_rfl) (by kernel_rfl) (by kernel_rfl) (by kernel_rfl) (by decide)) (glE_of (.tail _ (.tail _ (.head _))) h)
end Go.Proofs.YtbpoeigaoakdiaaDoor.H
