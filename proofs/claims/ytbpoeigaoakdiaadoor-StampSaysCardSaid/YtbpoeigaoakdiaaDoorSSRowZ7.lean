/- Own texts, merged: YOk. -/
import Derived.Test.YtbpoeigaoakdiaaDoorSSRowZ6
/- Clocks that count, and the row: the document's functions keep their contracts; StampSays' law. -/
namespace Go.Proofs.YtbpoeigaoakdiaaDoor.H
open Go.Vc

theorem bef_bit {t : Tr} {i j : Nat} (hi : i < t.2.1.length) : bitB ((ints (befN t)).getD i 0) (j : Int) = (bB t.2.1 i).testBit j := by
  rw [bef_at hi, bitB_nat]
theorem bef_lenI (t : Tr) : (ints (befN t)).length = t.2.1.length := by unfold ints befN; rw [List.length_map, (bst_len t.2.1 t.2.1.length).1]
theorem rplain_vc (t : Tr) (h : chk t = 0) (k : List Dat → Prop) (hk : k [⟨.sl I, plain t⟩]) :
    vcF ⟨Ey, [(11, cRBefore), (49, cBit)], [], [], []⟩ (anRPlain t) (Tryd.f34.body.getD .skip) Tryd.f34.ntmps [(.tmp 2, .sl I)] [⟨tTr, t⟩] k := by
  rw [vcRPlain]
  have g := gd_of h
  have hl := g.len
  simp only [decide_eq_true_eq, decide_eq_false_iff_not, and_true, true_and, Int.toNat_natCast, bef_lenI, pls_len, inK_i64]
  refine ⟨h, ⟨0, Nat.zero_le _, rfl, rfl⟩, fun x hx => ⟨fun hlt => ?_, fun hge => ?_⟩⟩
  · have hxl : x < t.2.1.length := by omega
    refine ⟨⟨0, Nat.zero_le _, rfl, rfl⟩, fun y hy => ⟨fun hyx => ⟨by omega, hlt, fun hb => ⟨by omega, hyx, fun hn => ⟨by omega, hyx, by omega, y + 1, by omega, by omega, ?_, rfl⟩, fun hn => ⟨by omega, y + 1, by omega, by omega, ?_, rfl⟩⟩, fun hb => ⟨by omega, y + 1, by omega, by omega, ?_, rfl⟩⟩, fun hyx => ?_⟩⟩
    · rw [bef_bit hxl] at hb
      have e := pls_at (l := t.2.1) (i := x) (j := y) (by omega)
      rw [e] at hn ⊢
      rw [nU, if_pos ⟨hb, hn⟩]
    · have e := pls_at (l := t.2.1) (i := x) (j := y) (by omega)
      rw [e] at hn
      rw [nU, if_neg (fun e => hn e.2)]
    · rw [bef_bit hxl] at hb
      rw [nU, if_neg (fun e => by rw [hb] at e; cases e.1)]
    · have hyx : y = x := by omega
      subst hyx
      rw [nU_eq g hxl]
      have h1 := pl_pos t.2.1 y
      have h2 := pl_le t.2.1 y
      refine ⟨by omega, by simp; omega, by omega, y + 1, by omega, by omega, rfl, ?_⟩
      rw [pls_succ]; rfl
  · have : x = t.2.1.length := by omega
    rw [this, pls_all h]; exact hk
theorem okRPlain : PlainOk Tryd.prog [] 34 cRPlain := by
  refine plain_of (CxOk.mk' Ey_ok (by kernel_rfl) mixed (gl := []) (GOk.cons okRBefore Tryd.func11 (by kernel_rfl) (by kernel_rfl) (GOk.cons okBit Tryd.func49 (by kernel_rfl) (by kernel_rfl) GOk.nil)) GoOk.nil noIt) Tryd.func34 (c := Tryd.f34.body.getD .skip) (rvs := [(.tmp 2, .sl I)]) (by kernel_rfl) (by kernel_rfl) (by kernel_rfl) ?_
  intro ds k ⟨hp, hk⟩ hwf
  obtain ⟨t, rfl, h, -⟩ := dest1 hp
  exact ⟨anRPlain t, rplain_vc t h k hk⟩

theorem rvecs_vc (t : Tr) (h : chk t = 0) (k : List Dat → Prop) (hk : k [⟨.sl (.sl I), vecs t⟩]) :
    vcF ⟨Ey, [(11, cRBefore), (49, cBit)], [], [], []⟩ (anRVecs t) (Tryd.f35.body.getD .skip) Tryd.f35.ntmps [(.tmp 2, .sl (.sl I))] [⟨tTr, t⟩] k := by
  rw [vcRVecs]
  have g := gd_of h
  have gg := good_of h
  have hl := g.len
  have hpr := gg.procs
  simp only [decide_eq_true_eq, decide_eq_false_iff_not, and_true, true_and, Int.toNat_natCast, bef_lenI, vls_len, inK_i64, cntR_len]
  refine ⟨h, ⟨0, Nat.zero_le _, rfl, rfl⟩, fun x hx => ⟨fun hlt => ?_, fun hge => ?_⟩⟩
  · have hxl : x < t.2.1.length := by omega
    refine ⟨by omega, by omega, by omega, ⟨0, by omega, rfl, (cntR_zero t x).symm⟩, fun y hy => ⟨fun hyx => ?_, fun hyx => ?_⟩⟩
    · have hyl : y < t.2.1.length := by omega
      have hev := gg.ev y hyl
      have hpp : prc t.2.1 y < t.1.toNat := by unfold prc; omega
      have hc := cntR_at (t := t) (i := x) (j := y) hpp
      have hm := cntU_min g (q := prc t.2.1 y) hxl y (by omega)
      have hcl := cntP_le t.2.1 (prc t.2.1 y) y
      have hV := V_nonneg g.p g.f hxl (prc t.2.1 y)
      have key : (x = y ∨ (bB t.2.1 x).testBit y = true) → ((cntR t x y).set (Int.toNat (List.getD t.2.1 y (0, 0, ())).1) ((cntR t x y).getD (Int.toNat (List.getD t.2.1 y (0, 0, ())).1) 0 + 1)) = cntR t x (y + 1) := fun hb => cntR_in hb hpp
      have rng : -9223372036854775808 ≤ (cntR t x y).getD (Int.toNat (List.getD t.2.1 y (0, 0, ())).1) 0 + 1 ∧ (cntR t x y).getD (Int.toNat (List.getD t.2.1 y (0, 0, ())).1) 0 + 1 ≤ 9223372036854775807 := by
        unfold prc at hc
        rw [hc]
        unfold prc at hm hcl hV
        omega
      refine ⟨fun he => ⟨by omega, by omega, by omega, by omega, rng, by omega, by omega, by omega, y + 1, by omega, by omega, rfl, key (.inl (by omega))⟩, fun he => ⟨by omega, hlt, fun hb => ⟨by omega, by omega, by omega, by omega, rng, by omega, by omega, by omega, y + 1, by omega, by omega, rfl, key (.inr ?_)⟩, fun hb => ⟨by omega, y + 1, by omega, by omega, rfl, cntR_out ?_⟩⟩⟩
      · rw [bef_bit hxl] at hb; exact hb
      · rw [bef_bit hxl] at hb
        rintro (e | e)
        · omega
        · rw [hb] at e; cases e
    · have : y = x + 1 := by omega
      subst this
      rw [cntR_all h hxl]
      refine ⟨by simp; omega, by omega, x + 1, by omega, by omega, rfl, ?_⟩
      rw [vls_succ]; rfl
  · have : x = t.2.1.length := by omega
    rw [this, vls_all h]; exact hk
theorem okRVecs : PlainOk Tryd.prog [] 35 cRVecs := by
  refine plain_of (CxOk.mk' Ey_ok (by kernel_rfl) mixed (gl := []) (GOk.cons okRBefore Tryd.func11 (by kernel_rfl) (by kernel_rfl) (GOk.cons okBit Tryd.func49 (by kernel_rfl) (by kernel_rfl) GOk.nil)) GoOk.nil noIt) Tryd.func35 (c := Tryd.f35.body.getD .skip) (rvs := [(.tmp 2, .sl (.sl I))]) (by kernel_rfl) (by kernel_rfl) (by kernel_rfl) ?_
  intro ds k ⟨hp, hk⟩ hwf
  obtain ⟨t, rfl, h, -⟩ := dest1 hp
  exact ⟨anRVecs t, rvecs_vc t h k hk⟩

theorem rC_len (t : Tr) (n p : Int) : ∀ i, (rC t n p i).length ≤ i
  | 0 => Nat.le_refl _
  | i + 1 => by
    have := rC_len t n p i
    unfold rC
    rw [List.length_append]
    split <;> simp <;> omega
theorem rB_len (t : Tr) (n : Int) : ∀ p, (rB t n p).length ≤ p * t.2.1.length
  | 0 => by simp [rB]
  | p + 1 => by
    have h1 := rB_len t n p
    have h2 := rC_len t n (p : Int) t.2.1.length
    unfold rB
    rw [List.length_append, Nat.succ_mul]
    omega
theorem rA_len (t : Tr) : ∀ n, (rA t n).length ≤ n * (t.1.toNat * t.2.1.length)
  | 0 => by simp [rA]
  | n + 1 => by
    have h1 := rA_len t n
    have h2 := rB_len t ((n : Int) + 1) t.1.toNat
    unfold rA
    rw [List.length_append, Nat.succ_mul]
    omega
theorem nx_nat (n : Nat) : (nx n - 1).toNat = n := by unfold nx; omega
theorem rrow_vc (t : Tr) (h : chk t = 0) (k : List Dat → Prop) (hk : k [⟨.sl I, rrow t⟩]) :
    vcF ⟨Ey, [(34, cRPlain)], [], [], []⟩ (anRRow t) (Tryd.f36.body.getD .skip) Tryd.f36.ntmps [(.tmp 2, .sl I)] [⟨tTr, t⟩] k := by
  rw [vcRRow]
  have g := gd_of h
  have gg := good_of h
  have hl := g.len
  have hpr := gg.procs
  have e : rrow t = rA t t.2.1.length := by unfold rrow; rw [if_pos h]
  rw [e] at hk
  simp only [decide_eq_true_eq, decide_eq_false_iff_not, and_true, true_and, Int.toNat_natCast, plain_len h, inK_i64, nx_nat]
  refine ⟨h, ⟨0, Nat.zero_le _, rfl, rfl⟩, fun x hx => ⟨fun hlt => ?_, fun hge => ?_⟩⟩
  · have hxl : x < t.2.1.length := by unfold nx at hlt; omega
    refine ⟨⟨0, Nat.zero_le _, rfl, (List.append_nil _).symm⟩, fun p hp => ⟨fun hpl => ⟨⟨0, Nat.zero_le _, rfl, (List.append_nil _).symm⟩, fun y hy => ⟨fun hyl => ?_, fun hyl => ?_⟩⟩, fun hpl => ?_⟩⟩
    · refine ⟨by omega, hyl, fun h1 => ⟨by omega, hyl, fun h2 => ⟨?_, by omega, y + 1, by omega, by omega, rfl, ?_⟩, fun h2 => ⟨by omega, y + 1, by omega, by omega, rfl, ?_⟩⟩, fun h1 => ⟨by omega, y + 1, by omega, by omega, rfl, ?_⟩⟩
      · have l1 := rA_len t x
        have l2 := rB_len t (nx x) p
        have l3 := rC_len t (nx x) (p : Int) y
        have m1 : t.1.toNat * t.2.1.length ≤ 5 * 24 := Nat.mul_le_mul (by omega) hl
        have m2 : x * (t.1.toNat * t.2.1.length) ≤ 24 * (5 * 24) := Nat.mul_le_mul (by omega) m1
        have m3 : p * t.2.1.length ≤ 5 * 24 := Nat.mul_le_mul (by omega) hl
        simp only [List.length_append, List.replicate, List.set, List.length_cons, List.length_nil]
        omega
      · rw [rC, if_pos ⟨h1, h2⟩, ← List.append_assoc]; rfl
      · rw [rC, if_neg (fun e => h2 e.2), List.append_nil]
      · rw [rC, if_neg (fun e => h1 e.1), List.append_nil]
    · have : y = t.2.1.length := by omega
      subst this
      refine ⟨by omega, p + 1, by omega, by omega, rfl, ?_⟩
      rw [rB, List.append_assoc]
    · have : p = t.1.toNat := by omega
      subst this
      refine ⟨by unfold nx; omega, x + 1, by omega, by omega, by unfold nx; omega, ?_⟩
      rw [rA]; rfl
  · have : x = t.2.1.length := by unfold nx at hge; omega
    rw [this]; exact hk
theorem okRRow : PlainOk Tryd.prog [] 36 cRRow := by
  refine plain_of (CxOk.mk' Ey_ok (by kernel_rfl) mixed (gl := []) (GOk.cons okRPlain Tryd.func34 (by kernel_rfl) (by kernel_rfl) GOk.nil) GoOk.nil noIt) Tryd.func36 (c := Tryd.f36.body.getD .skip) (rvs := [(.tmp 2, .sl I)]) (by kernel_rfl) (by kernel_rfl) (by kernel_rfl) ?_
  intro ds k ⟨hp, hk⟩ hwf
  obtain ⟨t, rfl, h, -⟩ := dest1 hp
  exact ⟨anRRow t, rrow_vc t h k hk⟩

theorem take_next {v w : List Int} {x : Nat} (h1 : x < v.length) (h2 : x < w.length) (h3 : v.take x = w.take x) : v.take (x + 1) = w.take (x + 1) ↔ v.getD x 0 = w.getD x 0 := by
  rw [show v.take (x + 1) = v.take x ++ (v[x]?).toList from List.take_add_one, show w.take (x + 1) = w.take x ++ (w[x]?).toList from List.take_add_one, h3, List.getD_eq_getElem?_getD, List.getD_eq_getElem?_getD, List.getElem?_eq_getElem h1, List.getElem?_eq_getElem h2, List.append_right_inj]
  simp
theorem eq_vc (v w : List Int) (hl : v.length ≤ maxLen) (k : List Dat → Prop) (hk : k [⟨.bool, v == w⟩]) :
    vcF ⟨Ey, [], [], [], []⟩ (anEq v w) (Tryd.f65.body.getD .skip) Tryd.f65.ntmps [(.tmp 4, .bool)] [⟨.sl I, v⟩, ⟨.sl I, w⟩] k := by
  rw [vcEq]
  have hml : maxLen ≤ 9223372036854775807 := by decide
  have no : v ≠ w → k [⟨.bool, false⟩] := fun h => by rw [beq_eq_false_iff_ne.2 h] at hk; exact hk
  simp only [decide_eq_true_eq, decide_eq_false_iff_not, and_true, true_and, Int.toNat_natCast, inK_i64, Bool.not_eq_true', Bool.not_eq_false', Int.natCast_inj]
  refine ⟨fun h => no fun e => h (by rw [e]), fun h => ⟨⟨0, ⟨Nat.zero_le _, rfl⟩, rfl⟩, fun x ⟨hx, he⟩ => ⟨fun hlt => ⟨by omega, hlt, by omega, by omega, fun hn => no fun e => hn (by rw [e]), fun hn => ⟨by omega, x + 1, ⟨by omega, (take_next (by omega) (by omega) he).2 hn⟩, by omega, rfl⟩⟩, fun hge => ?_⟩⟩⟩
  have hxv : x = v.length := by omega
  rw [hxv, List.take_of_length_le (Nat.le_refl _), List.take_of_length_le (by omega)] at he
  rw [he, beq_self_eq_true] at hk
  exact hk
theorem okEq : PlainOk Tryd.prog [] 65 cEq := by
  refine plain_of (CxOk.mk' Ey_ok (by kernel_rfl) mixed (gl := []) GOk.nil GoOk.nil noIt) Tryd.func65 (c := Tryd.f65.body.getD .skip) (rvs := [(.tmp 4, .bool)]) (by kernel_rfl) (by kernel_rfl) (by kernel_rfl) ?_
  intro ds k ⟨hp, hk⟩ hwf
  obtain ⟨v, w, rfl, -⟩ := dest2 hp
  exact ⟨anEq v w, eq_vc v w (wf2 hwf).1.1 k hk⟩
theorem leU_succ (v w : List Int) (i : Nat) : leU v w (i + 1) = (leU v w i && decide (v.getD i 0 ≤ w.getD i 0)) := by
  unfold leU
  rw [List.range_succ, List.all_append]; simp
theorem leU_mono {v w : List Int} {i n : Nat} (h : i ≤ n) (hn : leU v w n = true) : leU v w i = true := by
  unfold leU at *
  rw [List.all_eq_true] at *
  intro j hj
  exact hn j (List.mem_range.2 (by have := List.mem_range.1 hj; omega))
theorem below_vc (v w : List Int) (hl : v.length ≤ maxLen) (k : List Dat → Prop) (hk : k [⟨.bool, blB v w⟩, ⟨tErr, blE v w⟩]) :
    vcF ⟨Ey, [(65, cEq)], [], [], []⟩ (anBelow v w) (Tryd.f41.body.getD .skip) Tryd.f41.ntmps [(.tmp 4, .bool), (.tmp 5, tErr)] [⟨.sl I, v⟩, ⟨.sl I, w⟩] k := by
  rw [vcBelow]
  have hml : maxLen ≤ 9223372036854775807 := by decide
  simp only [decide_eq_true_eq, decide_eq_false_iff_not, and_true, true_and, Int.toNat_natCast, inK_i64, Bool.not_eq_true', Bool.not_eq_false', Int.natCast_inj]
  refine ⟨fun h => ⟨by decide, ?_⟩, fun h => ⟨⟨0, ⟨Nat.zero_le _, rfl⟩, rfl⟩, fun x ⟨hx, he⟩ => ⟨fun hlt => ⟨⟨by omega, hlt, by omega, by omega⟩, fun hn => ?_, fun hn => ⟨by omega, x + 1, ⟨by omega, ?_⟩, by omega, rfl⟩⟩, fun hge => ?_⟩⟩⟩
  · unfold blE blB at hk
    rw [if_neg h, decide_eq_false h] at hk; exact hk
  · have hb : leU v w v.length = false := by
      cases e : leU v w v.length with
      | false => rfl
      | true =>
        have := leU_mono (i := x + 1) (by omega) e
        rw [leU_succ, Bool.and_eq_true, decide_eq_true_eq] at this
        omega
    unfold blE blB at hk
    rw [if_pos h, hb, Bool.and_false, Bool.and_false] at hk; exact hk
  · rw [leU_succ, he, decide_eq_true (by omega)]; rfl
  · have hxv : x = v.length := by omega
    subst hxv
    unfold blE blB at hk
    rw [if_pos h, he, decide_eq_true h, Bool.and_true, Bool.true_and] at hk; exact hk
theorem okBelow : PlainOk Tryd.prog [] 41 cBelow := by
  refine plain_of (CxOk.mk' Ey_ok (by kernel_rfl) mixed (gl := []) (GOk.cons okEq Tryd.func65 (by kernel_rfl) (by kernel_rfl) GOk.nil) GoOk.nil noIt) Tryd.func41 (c := Tryd.f41.body.getD .skip) (rvs := [(.tmp 4, .bool), (.tmp 5, tErr)]) (by kernel_rfl) (by kernel_rfl) (by kernel_rfl) ?_
  intro ds k ⟨hp, hk⟩ hwf
  obtain ⟨v, w, rfl, -⟩ := dest2 hp
  exact ⟨anBelow v w, below_vc v w (wf2 hwf).1.1 k hk⟩

theorem lawS_vc (t : Tr) (v w : List Int) (hl : v.length ≤ maxLen) (k : List Dat → Prop) (hk : k [⟨.bool, true⟩]) :
    vcF ⟨Ey, [(8, cRTrace), (9, cError), (14, cInts), (34, cRPlain), (35, cRVecs), (36, cRRow), (37, cPlain), (38, cVecs), (39, cRows), (40, cRow), (41, cBelow)], glE, [], []⟩ (anLawS t v w) (Tryd.f7.body.getD .skip) Tryd.f7.ntmps [(.tmp 6, .bool)] [⟨tTr, t⟩, ⟨.sl I, v⟩, ⟨.sl I, w⟩] k := by
  rw [vcLawS]
  have hml : maxLen ≤ 9223372036854775807 := by decide
  have i1 : inK .i64 (chk t) := inK_i64.2 (by have := chk_in t; omega)
  have i2 : inK .i64 (blE v w) := inK_i64.2 (by unfold blE; split <;> omega)
  simp only [decide_true, decide_eq_true_eq, decide_eq_false_iff_not, and_true, true_and, Int.toNat_natCast, Bool.not_eq_true', Bool.not_eq_false', Int.natCast_inj, exists_const, forall_const, i1, i2, beq_self_eq_true, Bool.true_eq_false, false_implies, implies_true]
  have mid : (¬v.length = w.length → 3 = blE v w ∧ false = blB v w) ∧
      (v.length = w.length →
        (∃ x : Nat, (x ≤ v.length ∧ v.length = w.length) ∧ (!v == w) = (!v == w && leU v w x) ∧ (0 : Int) = ↑x) ∧
          ∀ (x : Nat), x ≤ v.length ∧ v.length = w.length →
            ((x : Int) < (v.length : Int) →
                ((!v == w && leU v w x) = true → 0 ≤ (x : Int) ∧ (x : Int) < (v.length : Int) ∧ 0 ≤ (x : Int) ∧ (x : Int) < (w.length : Int)) ∧
                  inK IntKind.i64 ((x : Int) + 1) ∧
                    ∃ x_1 : Nat, (x_1 ≤ v.length ∧ v.length = w.length) ∧ v.length - x_1 < v.length - x ∧
                      (!v == w && leU v w x && decide (v.getD x 0 ≤ w.getD x 0)) = (!v == w && leU v w x_1) ∧ (x : Int) + 1 = ↑x_1) ∧
              (¬(x : Int) < (v.length : Int) → 0 = blE v w ∧ (!v == w && leU v w x) = blB v w)) := by
    unfold blE blB
    refine ⟨fun h => ?_, fun h => ⟨⟨0, ⟨Nat.zero_le _, h⟩, ?_, rfl⟩, fun x ⟨hx, _⟩ => ⟨fun hlt => ⟨fun _ => ⟨by omega, hlt, by omega, by omega⟩, inK_i64.2 (by omega), x + 1, ⟨by omega, h⟩, by omega, ?_, rfl⟩, fun hge => ?_⟩⟩⟩
    · rw [if_neg h, decide_eq_false h]; exact ⟨rfl, rfl⟩
    · rw [show leU v w 0 = true from rfl, Bool.and_true]
    · rw [leU_succ, Bool.and_assoc]
    · have : x = v.length := by omega
      rw [if_pos h, decide_eq_true h, this]; exact ⟨rfl, rfl⟩
  refine ⟨⟨fun h => ⟨h, h, h⟩, fun h => ⟨by unfold plain; rw [if_neg h], by unfold rrow; rw [if_neg h], by unfold vecs; rw [if_neg h]⟩⟩, fun h r hr => ⟨?_, mid, hk⟩, fun h r hr => ⟨⟨inK_i64.2 (by omega), fun _ => ?_, fun e => absurd h.symm e⟩, mid, hk⟩⟩
  · subst hr
    unfold rrow; rw [if_neg h]; rfl
  · rw [rrow_eq h hr]; exact beq_self_eq_true _
theorem okLawS : PlainOk Tryd.prog glE 7 cLawS := by
  refine plain_of (CxOk.mk' Ey_ok (by kernel_rfl) mixed (gl := glE) (GOk.cons (lift okRTrace) Tryd.func8 (by kernel_rfl) (by kernel_rfl) (GOk.cons okError Tryd.func9 (by kernel_rfl) (by kernel_rfl) (GOk.cons (lift okInts) Tryd.func14 (by kernel_rfl) (by kernel_rfl) (GOk.cons (lift okRPlain) Tryd.func34 (by kernel_rfl) (by kernel_rfl) (GOk.cons (lift okRVecs) Tryd.func35 (by kernel_rfl) (by kernel_rfl) (GOk.cons (lift okRRow) Tryd.func36 (by kernel_rfl) (by kernel_rfl) (GOk.cons (lift okPlain) Tryd.func37 (by kernel_rfl) (by kernel_rfl) (GOk.cons (lift okVecs) Tryd.func38 (by kernel_rfl) (by kernel_rfl) (GOk.cons (lift okRows) Tryd.func39 (by kernel_rfl) (by kernel_rfl) (GOk.cons (lift okRow) Tryd.func40 (by kernel_rfl) (by kernel_rfl) (GOk.cons (lift okBelow) Tryd.func41 (by kernel_rfl) (by kernel_rfl) GOk.nil))))))))))) GoOk.nil noIt) Tryd.func7 (c := Tryd.f7.body.getD .skip) (rvs := [(.tmp 6, .bool)]) (by kernel_rfl) (by kernel_rfl) (by kernel_rfl) ?_
  intro ds k ⟨hp, hk⟩ hwf
  obtain ⟨t, v, w, rfl, -⟩ := dest3 hp
  exact ⟨anLawS t v w, lawS_vc t v w (wf3 hwf).2.1.1 k hk⟩
theorem glOkS {W : World} (h : laidMetH Tryd.prog Rows.stampSaysRow.laid W) : GlOk glE W fun b => b < W.heap.size := glE_of (.head _) h
end Go.Proofs.YtbpoeigaoakdiaaDoor.H
