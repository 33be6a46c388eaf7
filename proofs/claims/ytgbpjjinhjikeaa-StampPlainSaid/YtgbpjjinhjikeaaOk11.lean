/- Clocks that count: who is below, and the two laws. -/
import Derived.Test.YtgbpjjinhjikeaaM6
import Derived.Test.YtgbpjjinhjikeaaV11
import Derived.Test.YtgbpjjinhjikeaaOk4
import Derived.Test.YtgbpjjinhjikeaaOk3
namespace Go.Proofs.Ytgbpjjinhjikeaa
open Go.Vc

theorem take_next {a b : List Int} {x : Nat} (ha : x < a.length) (hb : x < b.length) (h : a.take x = b.take x) (e : a.getD x 0 = b.getD x 0) : a.take (x + 1) = b.take (x + 1) := by
  rw [List.take_add_one, List.take_add_one, h]
  rw [List.getD_eq_getElem?_getD, List.getD_eq_getElem?_getD, List.getElem?_eq_getElem ha, List.getElem?_eq_getElem hb] at e
  rw [List.getElem?_eq_getElem ha, List.getElem?_eq_getElem hb]
  simp only [Option.getD_some] at e
  rw [e]

theorem equal_vc (a b : List Int) (k : List Dat → Prop) (hl : a.length ≤ maxLen) (hk : k [⟨.bool, a == b⟩]) : vcF ⟨Ev5, []⟩ (anEqual a b) (Try.f33.body.getD .skip) Try.f33.ntmps [(.tmp 4, .bool)] [⟨.sl I, a⟩, ⟨.sl I, b⟩] k := by
  rw [vcEqual]
  have hml : maxLen ≤ 9223372036854775807 := by decide
  simp only [decide_eq_true_eq, decide_eq_false_iff_not, and_true, true_and, Bool.not_eq_true', Bool.not_eq_false', Int.toNat_natCast, inK_i64, eq_self]
  have ret : ∀ x : Bool, (a == b) = x → k [⟨.bool, x⟩] := by rintro _ rfl; exact hk
  refine ⟨fun h => ret _ ?_, fun h => ⟨⟨0, ⟨by omega, rfl⟩, rfl⟩, fun x ⟨hx, ht⟩ => ⟨fun hlt => ⟨by omega, hlt, by omega, by omega, fun hne => ret _ ?_, fun he => ⟨by omega, x + 1, ⟨by omega, take_next (by omega) (by omega) ht he⟩, by omega, by omega⟩⟩, fun hge => ret _ ?_⟩⟩⟩
  · rw [beq_eq_false_iff_ne]; intro he; exact h (by rw [he])
  · rw [beq_eq_false_iff_ne]; intro he; exact hne (by rw [he])
  · have h1 : x = a.length := by omega
    rw [h1, List.take_length, List.take_of_length_le (by omega)] at ht
    rw [ht]; exact beq_self_eq_true b
theorem okEqual : PlainOk Try.prog 33 cEqual := by
  refine plain_of (CxOk.mk' Ev5_ok rfl mixed GOk.nil) Try.func33 (c := Try.f33.body.getD .skip) (rvs := [(.tmp 4, .bool)]) (by kernel_rfl) (by kernel_rfl) (by kernel_rfl) ?_
  intro ds k ⟨hp, hk⟩ hwf
  obtain ⟨a, b, rfl, -⟩ := dest2 hp
  exact ⟨anEqual a b, equal_vc a b k (wf2 hwf).1.1 hk⟩

theorem allLe_iff (v w : List Int) : allLe v w = true ↔ ∀ i, i < v.length → v.getD i 0 ≤ w.getD i 0 := by
  unfold allLe
  rw [List.all_eq_true]
  constructor
  · intro h i hi
    simpa using h i (List.mem_range.2 hi)
  · intro h i hi
    simpa using h i (List.mem_range.1 hi)
theorem blwB_iff (v w : List Int) : blwB v w = true ↔ v.length = w.length ∧ (∀ i, i < v.length → v.getD i 0 ≤ w.getD i 0) ∧ v ≠ w := by
  unfold blwB
  rw [Bool.and_eq_true, Bool.and_eq_true, decide_eq_true_eq, allLe_iff, Bool.not_eq_true', beq_eq_false_iff_ne]

theorem below_vc (a b : List Int) (k : List Dat → Prop) (hl : a.length ≤ maxLen) (hk : k [⟨.bool, blwB a b⟩, ⟨tErr, blwE a b⟩]) : vcF ⟨Ev5, [(33, cEqual)]⟩ (anBelow a b) (Try.f23.body.getD .skip) Try.f23.ntmps [(.tmp 4, .bool), (.tmp 5, tErr)] [⟨.sl I, a⟩, ⟨.sl I, b⟩] k := by
  rw [vcBelow]
  have hml : maxLen ≤ 9223372036854775807 := by decide
  simp only [decide_eq_true_eq, decide_eq_false_iff_not, and_true, true_and, Bool.not_eq_true', Bool.not_eq_false', Int.toNat_natCast, inK_i64, eq_self]
  have ret : ∀ (x : Bool) (e : Int), blwB a b = x → blwE a b = e → k [⟨.bool, x⟩, ⟨tErr, e⟩] := by rintro _ _ rfl rfl; exact hk
  have hE : ∀ (h : a.length = b.length), blwE a b = 0 := fun h => by unfold blwE; rw [if_pos h]
  refine ⟨fun h => ⟨by decide, ret _ _ ?_ ?_⟩, fun h => ⟨⟨0, ⟨by omega, fun j hj => absurd hj (Nat.not_lt_zero _)⟩, by omega⟩, fun x ⟨hx, ht⟩ => ⟨fun hlt => ⟨by omega, hlt, by omega, by omega, fun hgt => ret _ _ ?_ (hE (by omega)), fun he => ⟨by omega, x + 1, ⟨by omega, fun j hj => ?_⟩, by omega, by omega⟩⟩, fun hge => ret _ _ ?_ (hE (by omega))⟩⟩⟩
  · cases hb : blwB a b with
    | false => rfl
    | true => exact absurd ((blwB_iff a b).1 hb).1 (by omega)
  · unfold blwE; rw [if_neg (by omega)]
  · cases hb : blwB a b with
    | false => rfl
    | true =>
      have := ((blwB_iff a b).1 hb).2.1 x (by omega)
      omega
  · by_cases hjx : j = x
    · subst hjx; omega
    · exact ht j (by omega)
  · have h1 : x = a.length := by omega
    subst h1
    have e1 : a.length = b.length := by omega
    unfold blwB
    rw [(allLe_iff a b).2 ht, decide_eq_true e1]
    rfl
theorem okBelow : PlainOk Try.prog 23 cBelow := by
  refine plain_of (CxOk.mk' Ev5_ok rfl mixed (GOk.cons okEqual Try.func33 (by kernel_rfl) (by kernel_rfl) GOk.nil)) Try.func23 (c := Try.f23.body.getD .skip) (rvs := [(.tmp 4, .bool), (.tmp 5, tErr)]) (by kernel_rfl) (by kernel_rfl) (by kernel_rfl) ?_
  intro ds k ⟨hp, hk⟩ hwf
  obtain ⟨a, b, rfl, -⟩ := dest2 hp
  exact ⟨anBelow a b, below_vc a b k (wf2 hwf).1.1 hk⟩

theorem take_nextL {a b : List (List Int)} {x : Nat} (ha : x < a.length) (hb : x < b.length) (h : a.take x = b.take x) (e : a.getD x [] = b.getD x []) : a.take (x + 1) = b.take (x + 1) := by
  rw [List.take_add_one, List.take_add_one, h]
  rw [List.getD_eq_getElem?_getD, List.getD_eq_getElem?_getD, List.getElem?_eq_getElem ha, List.getElem?_eq_getElem hb] at e
  rw [List.getElem?_eq_getElem ha, List.getElem?_eq_getElem hb]
  simp only [Option.getD_some] at e
  rw [e]
theorem rows_vc (a b : List (List Int)) (k : List Dat → Prop) (hl : a.length ≤ maxLen) (hk : k [⟨.bool, a == b⟩]) : vcF ⟨Ev5, [(25, cInts)]⟩ (anRows a b) (Try.f31.body.getD .skip) Try.f31.ntmps [(.tmp 4, .bool)] [⟨.sl (.sl I), a⟩, ⟨.sl (.sl I), b⟩] k := by
  rw [vcRows]
  have hml : maxLen ≤ 9223372036854775807 := by decide
  simp only [decide_eq_true_eq, decide_eq_false_iff_not, and_true, true_and, Bool.not_eq_true', Bool.not_eq_false', Int.toNat_natCast, inK_i64, eq_self]
  have ret : ∀ x : Bool, (a == b) = x → k [⟨.bool, x⟩] := by rintro _ rfl; exact hk
  refine ⟨fun h => ret _ ?_, fun h => ⟨⟨0, ⟨by omega, rfl⟩, rfl⟩, fun x ⟨hx, ht⟩ => ⟨fun hlt => ⟨by omega, hlt, by omega, by omega, fun hne => ret _ ?_, fun he => ⟨by omega, x + 1, ⟨by omega, take_nextL (by omega) (by omega) ht (by simpa using he)⟩, by omega, by omega⟩⟩, fun hge => ret _ ?_⟩⟩⟩
  · rw [beq_eq_false_iff_ne]; intro he; exact h (by rw [he])
  · rw [beq_eq_false_iff_ne]; intro he; rw [he] at hne; simp at hne
  · have h1 : x = a.length := by omega
    rw [h1, List.take_length, List.take_of_length_le (by omega)] at ht
    rw [ht]; exact beq_self_eq_true b
theorem okRows : PlainOk Try.prog 31 cRows := by
  refine plain_of (CxOk.mk' Ev5_ok rfl mixed (GOk.cons okInts Try.func25 (by kernel_rfl) (by kernel_rfl) GOk.nil)) Try.func31 (c := Try.f31.body.getD .skip) (rvs := [(.tmp 4, .bool)]) (by kernel_rfl) (by kernel_rfl) (by kernel_rfl) ?_
  intro ds k ⟨hp, hk⟩ hwf
  obtain ⟨a, b, rfl, -⟩ := dest2 hp
  exact ⟨anRows a b, rows_vc a b k (wf2 hwf).1.1 hk⟩

theorem okSFact : PlainOk Try.prog 20 cSFact := by
  refine plain_of (CxOk.mk' Ev5_ok rfl mixed (GOk.cons okTalk Try.func24 (by kernel_rfl) (by kernel_rfl) (GOk.cons okPlain Try.func21 (by kernel_rfl) (by kernel_rfl) (GOk.cons okVecs Try.func22 (by kernel_rfl) (by kernel_rfl) (GOk.cons okInts Try.func25 (by kernel_rfl) (by kernel_rfl) (GOk.cons okRows Try.func31 (by kernel_rfl) (by kernel_rfl) GOk.nil)))))) Try.func20 (c := Try.f20.body.getD .skip) (rvs := [(.tmp 0, .bool)]) (by kernel_rfl) (by kernel_rfl) (by kernel_rfl) ?_
  intro ds k ⟨hp, hk⟩ hwf
  obtain ⟨rfl, -⟩ := dest0 hp
  have hk : k [⟨.bool, true⟩] := hk
  refine ⟨[joinAll], ?_⟩
  rw [vcSFact]
  have e1 : decide (chk talkT = 0) = true := by decide +kernel
  have e2 : (plain talkT == (((List.replicate 3 (0 : Int)).set 0 1).set 1 2).set 2 2) = true := by decide +kernel
  have e3 : (vecs talkT == (((List.replicate 3 ([] : List Int)).set 0 (((List.replicate 2 (0 : Int)).set 0 1).set 1 0)).set 1 (((List.replicate 2 (0 : Int)).set 0 1).set 1 1)).set 2 (((List.replicate 2 (0 : Int)).set 0 2).set 1 0)) = true := by decide +kernel
  simp only [e1, e2, e3, true_and, and_true, forall_const, reduceCtorEq, false_implies]
  exact hk

theorem plain_len {t : Tr} (h : chk t = 0) : (plain t).length = t.2.1.length := by
  unfold plain; rw [if_pos h]; exact (plst_len _ _).1
theorem plain_at {t : Tr} (h : chk t = 0) {i : Nat} (hi : i < t.2.1.length) : (plain t).getD i 0 = pl t.2.1 i := by
  unfold plain; rw [if_pos h]; exact pl_keep _ hi

theorem sp_vc (t : Tr) (i j : Int) (k : List Dat → Prop) (hk : k [⟨.bool, true⟩]) : vcF ⟨Ev5, [(20, cSFact), (21, cPlain), (11, cBefore), (13, cBit)]⟩ (anSP t i) (Try.f8.body.getD .skip) Try.f8.ntmps [(.tmp 6, .bool)] [⟨tTr, t⟩, ⟨I, i⟩, ⟨I, j⟩] k := by
  rw [vcSP]
  have ret : ∀ x : Bool, x = true → k [⟨.bool, x⟩] := by rintro _ rfl; exact hk
  simp only [decide_eq_true_eq, decide_eq_false_iff_not, and_true, true_and, Bool.not_eq_true', Bool.not_eq_false', Int.toNat_natCast, implies_true, eq_self, inK_i64]
  refine ⟨(fun h => by cases h), fun _ => ⟨fun h => ⟨fun _ => ret _ (by simpa using h), fun h2 => absurd h2 h⟩, fun h => ⟨fun h2 => absurd h h2, fun _ => ⟨fun hne => ?_, fun _ => ⟨fun _ => hk, fun hi0 => ⟨fun _ => hk, fun hi1 => ⟨fun _ => hk, fun hj0 => ⟨fun _ => hk, fun hj1 => ?_⟩⟩⟩⟩⟩⟩⟩⟩
  · exfalso
    apply hne
    rw [plain_len h, bef_len h]
  have g := good_of h
  have hlen := g.len
  have hpl := plain_len h
  have hbl := bef_len h
  obtain ⟨p, rfl⟩ := Int.eq_ofNat_of_zero_le (show 0 ≤ i by omega)
  obtain ⟨z, rfl⟩ := Int.eq_ofNat_of_zero_le (show 0 ≤ j by omega)
  have hp1 : p < t.2.1.length := by omega
  have hz1 : z < t.2.1.length := by omega
  simp only [Int.toNat_natCast]
  have hbp := bef_at h hp1
  have hpp := plain_at h hp1
  have hpz := plain_at h hz1
  simp only [hbp, hpp, hpz]
  have hbit : ∀ y : Nat, bitB ((bB t.2.1 p : Nat) : Int) (y : Int) = true ↔ (bB t.2.1 p).testBit y = true := fun y => by rw [bitB_nat]
  have gp := good_prc g
  have gf := good_frm g
  have hA : (bif bitB ((bB t.2.1 p : Nat) : Int) (z : Int) then decide (pl t.2.1 p ≤ pl t.2.1 z) || !decide ((p : Int) = (z : Int)) && (decide ((t.2.1.getD p (0, 0, ())).1 = (t.2.1.getD z (0, 0, ())).1) && decide (pl t.2.1 p = pl t.2.1 z)) else !decide ((p : Int) = (z : Int)) && (decide ((t.2.1.getD p (0, 0, ())).1 = (t.2.1.getD z (0, 0, ())).1) && decide (pl t.2.1 p = pl t.2.1 z))) = false := by
    have h2 : (!decide ((p : Int) = (z : Int)) && (decide ((t.2.1.getD p (0, 0, ())).1 = (t.2.1.getD z (0, 0, ())).1) && decide (pl t.2.1 p = pl t.2.1 z))) = false := by
      cases hq : (!decide ((p : Int) = (z : Int)) && (decide ((t.2.1.getD p (0, 0, ())).1 = (t.2.1.getD z (0, 0, ())).1) && decide (pl t.2.1 p = pl t.2.1 z))) with
      | false => rfl
      | true =>
        simp only [Bool.and_eq_true, Bool.not_eq_true', decide_eq_true_eq, decide_eq_false_iff_not] at hq
        obtain ⟨q1, q2, q3⟩ := hq
        have e := (prc_eq g hp1 hz1).2 q2.symm
        rcases Nat.lt_trichotomy p z with hlt | he | hlt
        · have := pl_less gp gf hz1 (bB_must gp gf hz1 hlt (.inl e.symm))
          omega
        · omega
        · have := pl_less gp gf hp1 (bB_must gp gf hp1 hlt (.inl e))
          omega
    cases hb : bitB ((bB t.2.1 p : Nat) : Int) (z : Int) with
    | false => exact h2
    | true =>
      have := pl_less gp gf hp1 ((hbit z).1 hb)
      rw [h2]
      simp only [cond_true, Bool.or_false, decide_eq_false_iff_not]
      omega
  simp only [hA]
  refine ⟨⟨by omega, by omega, fun _ => ⟨by omega, by omega, by omega, by omega, fun _ => fun _ => ⟨by omega, by omega, by omega, by omega, fun _ => ⟨by omega, by omega, by omega, by omega⟩⟩⟩, fun _ => fun _ => ⟨by omega, by omega, by omega, by omega, fun _ => ⟨by omega, by omega, by omega, by omega⟩⟩⟩, (fun h => by cases h), fun _ => ⟨⟨0, ⟨Nat.zero_le _, fun m hm => absurd hm (Nat.not_lt_zero _)⟩, rfl⟩, fun x ⟨hx, hno⟩ => ⟨fun hlt => ?_, fun hge => ?_⟩⟩⟩
  · have hx1 : x < t.2.1.length := by omega
    have hb := pl_le t.2.1 x
    have hb2 := pl_pos t.2.1 x
    simp only [plain_at h hx1]
    refine ⟨⟨by omega, by omega, fun _ => ⟨by omega, by omega, by omega, by omega, by omega⟩⟩, fun _ => hk, fun hn => ⟨by omega, x + 1, ⟨by omega, fun m hm => ?_⟩, by omega, by omega⟩⟩
    by_cases hmx : m = x
    · subst hmx
      rintro ⟨a1, a2⟩
      rw [plain_at h hx1] at a2
      rw [a1, decide_eq_true a2] at hn
      cases hn
    · exact hno m (by omega)
  · have hxe : x = t.2.1.length := by omega
    rcases pl_near gp gf hp1 with ⟨q, q1, q2⟩ | ⟨q1, q2⟩
    · exfalso
      have hqp := bB_less gp gf hp1 q1
      refine hno q (by omega) ⟨(hbit q).2 q1, ?_⟩
      rw [plain_at h (by omega)]; exact q2
    · refine ⟨by omega, by omega, fun _ => ⟨by omega, by omega, ret _ ?_⟩, fun hn => absurd q1 hn⟩
      rw [q2]; rfl

theorem okSP : PlainOk Try.prog 8 (cdet [tTr, I, I] (fun _ _ _ => True) (fun _ _ _ => [⟨.bool, true⟩])) := by
  refine plain_of (CxOk.mk' Ev5_ok (by kernel_rfl) mixed (GOk.cons okSFact Try.func20 (by kernel_rfl) (by kernel_rfl) (GOk.cons okPlain Try.func21 (by kernel_rfl) (by kernel_rfl) (GOk.cons okBefore Try.func11 (by kernel_rfl) (by kernel_rfl) (GOk.cons okBit Try.func13 (by kernel_rfl) (by kernel_rfl) GOk.nil))))) Try.func8 (c := Try.f8.body.getD .skip) (rvs := [(.tmp 6, .bool)]) (by kernel_rfl) (by kernel_rfl) (by kernel_rfl) ?_
  intro ds k ⟨hp, hk⟩ hwf
  obtain ⟨t, i, j, rfl, -⟩ := dest3 hp
  exact ⟨anSP t i, sp_vc t i j k hk⟩

theorem vecs_len {t : Tr} (h : chk t = 0) : (vecs t).length = t.2.1.length := by
  unfold vecs; rw [if_pos h, List.length_map]; exact (vst_len _ _).1
theorem vecs_at {t : Tr} (h : chk t = 0) {i : Nat} (hi : i < t.2.1.length) : (vecs t).getD i [] = (vec t.2.1 i).take t.1.toNat := by
  unfold vecs; rw [if_pos h, List.getD_eq_getElem?_getD, List.getElem?_map]
  have := vec_keep t.2.1 hi
  rw [List.getD_eq_getElem?_getD] at this
  have hl : i < (vst t.2.1 t.2.1.length).1.length := by rw [(vst_len _ _).1]; exact hi
  rw [List.getElem?_eq_getElem hl] at this ⊢
  simp only [Option.map_some, Option.getD_some] at this ⊢
  rw [this]
theorem take_at {l : List Int} {n q : Nat} (h : q < n) : (l.take n).getD q 0 = l.getD q 0 := by
  rw [List.getD_eq_getElem?_getD, List.getElem?_take, if_pos h, ← List.getD_eq_getElem?_getD]

theorem sv_vc (t : Tr) (i j : Int) (k : List Dat → Prop) (hk : k [⟨.bool, true⟩]) : vcF ⟨Ev5, [(20, cSFact), (22, cVecs), (11, cBefore), (13, cBit), (23, cBelow)]⟩ [joinAll] (Try.f9.body.getD .skip) Try.f9.ntmps [(.tmp 6, .bool)] [⟨tTr, t⟩, ⟨I, i⟩, ⟨I, j⟩] k := by
  rw [vcSV]
  have ret : ∀ x : Bool, x = true → k [⟨.bool, x⟩] := by rintro _ rfl; exact hk
  simp only [decide_eq_true_eq, decide_eq_false_iff_not, and_true, true_and, Bool.not_eq_true', Bool.not_eq_false', Int.toNat_natCast, implies_true, eq_self, inK_i64]
  refine ⟨(fun h => by cases h), fun _ => ⟨fun h => ⟨fun _ => ret _ (by simpa using h), fun h2 => absurd h2 h⟩, fun h => ⟨fun h2 => absurd h h2, fun _ => ⟨fun hne => ?_, fun _ => ⟨fun _ => hk, fun hi0 => ⟨fun _ => hk, fun hi1 => ⟨fun _ => hk, fun hj0 => ⟨fun _ => hk, fun hj1 => ?_⟩⟩⟩⟩⟩⟩⟩⟩
  · exfalso
    apply hne
    rw [vecs_len h, bef_len h]
  have g := good_of h
  have hlen := g.len
  have hpr := g.procs
  have hvl := vecs_len h
  have hbl := bef_len h
  obtain ⟨p, rfl⟩ := Int.eq_ofNat_of_zero_le (show 0 ≤ i by omega)
  obtain ⟨z, rfl⟩ := Int.eq_ofNat_of_zero_le (show 0 ≤ j by omega)
  have hp1 : p < t.2.1.length := by omega
  have hz1 : z < t.2.1.length := by omega
  simp only [Int.toNat_natCast]
  have hbz := bef_at h hz1
  have hvp := vecs_at h hp1
  have hvz := vecs_at h hz1
  simp only [hbz, hvp, hvz]
  have gp := good_prc g
  have gf := good_frm g
  have lp : ((vec t.2.1 p).take t.1.toNat).length = t.1.toNat := by
    have := ((vst_ok t.2.1 gp gf (p + 1) (by omega)).1 p (by omega)).1
    have e : (vec t.2.1 p).length = 5 := this
    rw [List.length_take]; omega
  have lz : ((vec t.2.1 z).take t.1.toNat).length = t.1.toNat := by
    have := ((vst_ok t.2.1 gp gf (z + 1) (by omega)).1 z (by omega)).1
    have e : (vec t.2.1 z).length = 5 := this
    rw [List.length_take]; omega
  have hev := g.ev p hp1
  have hevz := g.ev z hz1
  have e1 : (t.2.1.getD p (0, 0, ())).1.toNat = prc t.2.1 p := rfl
  have e1z : (t.2.1.getD z (0, 0, ())).1.toNat = prc t.2.1 z := rfl
  have hprc : prc t.2.1 p < t.1.toNat := by omega
  have hprz : prc t.2.1 z < t.1.toNat := by omega
  have atp : ∀ q, q < t.1.toNat → ((vec t.2.1 p).take t.1.toNat).getD q 0 = V t.2.1 p q := fun q hq => take_at hq
  have atz : ∀ q, q < t.1.toNat → ((vec t.2.1 z).take t.1.toNat).getD q 0 = V t.2.1 z q := fun q hq => take_at hq
  have hbit : bitB ((bB t.2.1 z : Nat) : Int) (p : Int) = (bB t.2.1 z).testBit p := by rw [bitB_nat]
  simp only [hbit, e1, atp _ hprc, atz _ hprc]
  have hE : blwE ((vec t.2.1 p).take t.1.toNat) ((vec t.2.1 z).take t.1.toNat) = 0 := by unfold blwE; rw [if_pos (by omega)]
  have hB : blwB ((vec t.2.1 p).take t.1.toNat) ((vec t.2.1 z).take t.1.toNat) = (bB t.2.1 z).testBit p := by
    rw [Bool.eq_iff_iff, blwB_iff]
    constructor
    · rintro ⟨_, h2, h3⟩
      have := h2 (prc t.2.1 p) (by omega)
      rw [atp _ hprc, atz _ hprc] at this
      rcases (V_iff gp gf hp1 hz1).1 this with he | hb
      · exact absurd (by rw [he]) h3
      · exact hb
    · intro hb
      refine ⟨by omega, fun q hq => ?_, fun he => ?_⟩
      · rw [atp _ (by omega), atz _ (by omega)]
        have := V_mono gp gf hz1 hb (q := q) (by omega)
        split at this <;> omega
      · have e : V t.2.1 z (prc t.2.1 z) ≤ V t.2.1 p (prc t.2.1 z) := by
          rw [← atp _ hprz, ← atz _ hprz, he]; exact Int.le_refl _
        have h1 := bB_less gp gf hz1 hb
        rcases (V_iff gp gf hz1 hp1).1 e with h2 | h2
        · omega
        · have := bB_less gp gf hp1 h2
          omega
  simp only [hE, hB]
  have hV := V_iff gp gf hp1 hz1
  have hpz : ((p : Int) = (z : Int)) ↔ p = z := by omega
  simp only [lp, lz]
  refine ⟨⟨by omega, by omega, fun _ => ⟨by omega, by omega⟩⟩, fun hbad => ?_, fun _ => ⟨⟨by omega, by omega, by omega, by omega⟩, by omega, by omega, by omega, by omega, fun _ _ => ⟨fun _ => ⟨by omega, by omega, by omega, by omega, by omega, by omega, by omega, by omega⟩, fun _ => ⟨by omega, by omega, by omega, by omega, by omega, by omega, by omega, by omega⟩⟩, ret _ ?_⟩⟩
  · exfalso
    simp only [Bool.or_eq_true, Bool.not_eq_true', decide_eq_false_iff_not] at hbad
    omega
  · simp only [beq_self_eq_true, decide_true, Bool.true_and]
    cases hb : (bB t.2.1 z).testBit p with
    | true =>
      have := hV.2 (.inr hb)
      simp only [cond_true, decide_eq_true this, beq_self_eq_true]
    | false =>
      simp only [cond_false]
      rw [beq_iff_eq]
      exact decide_eq_decide.2 (by rw [hpz, hV]; simp [hb])

theorem okSV : PlainOk Try.prog 9 (cdet [tTr, I, I] (fun _ _ _ => True) (fun _ _ _ => [⟨.bool, true⟩])) := by
  refine plain_of (CxOk.mk' Ev5_ok (by kernel_rfl) mixed (GOk.cons okSFact Try.func20 (by kernel_rfl) (by kernel_rfl) (GOk.cons okVecs Try.func22 (by kernel_rfl) (by kernel_rfl) (GOk.cons okBefore Try.func11 (by kernel_rfl) (by kernel_rfl) (GOk.cons okBit Try.func13 (by kernel_rfl) (by kernel_rfl) (GOk.cons okBelow Try.func23 (by kernel_rfl) (by kernel_rfl) GOk.nil)))))) Try.func9 (c := Try.f9.body.getD .skip) (rvs := [(.tmp 6, .bool)]) (by kernel_rfl) (by kernel_rfl) (by kernel_rfl) ?_
  intro ds k ⟨hp, hk⟩ hwf
  obtain ⟨t, i, j, rfl, -⟩ := dest3 hp
  exact ⟨[joinAll], sv_vc t i j k hk⟩
end Go.Proofs.Ytgbpjjinhjikeaa
