/- Clocks that count and look at the time: the functions keep their contracts. -/
import Derived.Test.YtgbpjjinhjikeaaOk4
import Derived.Test.YtgbpjjinhjikeaaV5
namespace Go.Proofs.Ytgbpjjinhjikeaa
open Go.Vc

theorem take_all {α : Type} {p : α → Bool} {l : List α} {z : α} {x : Nat} (h : (l.take x).all p = true) (hp : p (l.getD x z) = true) : (l.take (x + 1)).all p = true := by
  by_cases hx : x < l.length
  · rw [List.take_add_one, List.all_append, h, List.getElem?_eq_getElem hx]
    rw [List.getD_eq_getElem?_getD, List.getElem?_eq_getElem hx] at hp
    simpa using hp
  · rw [List.take_of_length_le (by omega)]
    rwa [List.take_of_length_le (by omega)] at h

theorem hchk_vc (t : Tr) (ts : List Int) (k : List Dat → Prop) (hl : ts.length ≤ maxLen) (hk : k [⟨tErr, hchk t ts⟩]) : vcF ⟨Eh, [(26, cCheck), (34, cWithin)]⟩ (anHChk t ts) (Try.f29.body.getD .skip) Try.f29.ntmps [(.tmp 4, tErr)] [⟨tTr, t⟩, ⟨.sl I, ts⟩] k := by
  rw [vcHChk]
  have hml : maxLen ≤ 9223372036854775807 := by decide
  have ret : ∀ x : Int, hchk t ts = x → k [⟨tErr, x⟩] := by rintro _ rfl; exact hk
  simp only [decide_eq_true_eq, decide_eq_false_iff_not, and_true, true_and, Bool.not_eq_true', Bool.not_eq_false', Int.toNat_natCast, eq_self, inK_i64]
  refine ⟨fun h => ret _ (by unfold hchk; rw [if_neg h]), fun h => ⟨fun g => ⟨by decide, ret _ ?_⟩, fun g => ⟨⟨0, ⟨Nat.zero_le _, rfl⟩, rfl⟩, fun x ⟨hx, ha⟩ => ⟨fun hlt => ⟨by omega, by omega, fun hb => ⟨by decide, ret _ ?_⟩, fun hb => ⟨by omega, x + 1, ⟨by omega, take_all ha hb⟩, by omega, by omega⟩⟩, fun hge => ret _ ?_⟩⟩⟩⟩
  · unfold hchk; rw [if_pos h, if_neg (by omega)]
  · unfold hchk
    rw [if_pos h, if_pos (by omega), if_neg]
    intro hall
    rw [List.all_eq_true] at hall
    have hx' : x < ts.length := by omega
    have := hall (ts.getD x 0) (by rw [List.getD_eq_getElem?_getD, List.getElem?_eq_getElem hx']; exact List.getElem_mem hx')
    unfold timeB at this
    rw [hb] at this; cases this
  · unfold hchk
    have : x = ts.length := by omega
    rw [this, List.take_length] at ha
    rw [if_pos h, if_pos (by omega), if_pos ha]

theorem okHChk : PlainOk Try.prog 29 cHChk := by
  refine plain_of (CxOk.mk' Eh_ok (by kernel_rfl) mixed (GOk.cons okCheck Try.func26 (by kernel_rfl) (by kernel_rfl) (GOk.cons okWithin Try.func34 (by kernel_rfl) (by kernel_rfl) GOk.nil))) Try.func29 (c := Try.f29.body.getD .skip) (rvs := [(.tmp 4, tErr)]) (by kernel_rfl) (by kernel_rfl) (by kernel_rfl) ?_
  intro ds k ⟨hp, hk⟩ hwf
  obtain ⟨t, ts, rfl, -⟩ := dest2 hp
  exact ⟨anHChk t ts, hchk_vc t ts k (wf2 hwf).2.1 hk⟩

theorem okNext : PlainOk Try.prog 30 cNext := by
  refine plain_of (CxOk.mk' Eh_ok (by kernel_rfl) mixed GOk.nil) Try.func30 (c := Try.f30.body.getD .skip) (rvs := [(.cell 6 43, tSt)]) (by kernel_rfl) (by kernel_rfl) (by kernel_rfl) ?_
  intro ds k ⟨hp, hk⟩ hwf
  obtain ⟨a, b, n, rfl, hab⟩ := dest3 hp
  refine ⟨[], ?_⟩
  clear hp hwf
  revert hk hab
  revert a b n
  intro (a : Stp) (b : Stp) (n : Int) hab hk
  have hk : k [⟨tSt, nextS a b n⟩] := hk
  obtain ⟨ha, hb, _⟩ := hab
  rw [vcNext]
  have ret : ∀ x : Stp, nextS a b n = x → k [⟨tSt, x⟩] := by rintro _ rfl; exact hk
  unfold small at ha hb
  simp only [decide_eq_true_eq, decide_eq_false_iff_not, inK_i64]
  refine ⟨fun h1 => ⟨by omega, fun h2 => ⟨by omega, ret _ ?_⟩, fun h2 => ret _ ?_⟩, fun h1 => ⟨fun h2 => ⟨by omega, ret _ ?_⟩, fun h2 => ret _ ?_⟩⟩
  · unfold nextS; rw [if_pos h2, if_pos h1]
  · unfold nextS; rw [if_neg h2, if_pos h1]
  · unfold nextS; rw [if_pos h2, if_neg h1]
  · unfold nextS; rw [if_neg h2, if_neg h1]

theorem nextS_count (a b : Stp) (n : Int) {m : Int} (ha : 0 ≤ a.2.1 ∧ a.2.1 ≤ m) (hb : 0 ≤ b.2.1 ∧ b.2.1 ≤ m) : 0 ≤ (nextS a b n).2.1 ∧ (nextS a b n).2.1 ≤ m + 1 := by
  unfold nextS
  dsimp only
  split <;> split <;> omega

theorem getD_app {α : Type} (l : List α) (s z : α) (j : Nat) : (l ++ [s]).getD j z = if j = l.length then s else l.getD j z := by
  rw [List.getD_eq_getElem?_getD, List.getD_eq_getElem?_getD]
  split
  · rename_i h; subst h; simp
  · rename_i h
    by_cases hj : j < l.length
    · rw [List.getElem?_append_left hj]
    · rw [List.getElem?_eq_none (by simp; omega), List.getElem?_eq_none (by omega)]
theorem getD_set' {α : Type} (l : List α) (s z : α) (i j : Nat) : (l.set i s).getD j z = if i = j ∧ i < l.length then s else l.getD j z := by
  rw [List.getD_eq_getElem?_getD, List.getD_eq_getElem?_getD, List.getElem?_set]
  split
  · rename_i h; subst h
    split
    · rename_i h; rw [if_pos ⟨rfl, h⟩]; rfl
    · rename_i h; rw [if_neg (by omega), List.getElem?_eq_none (by omega)]
  · rename_i h; rw [if_neg (by omega)]

theorem sst_len (l : List Ev) (ts : List Int) : ∀ i, (sst l ts i).1.length = i ∧ (sst l ts i).2.length = 5
  | 0 => by simp [sst]
  | i + 1 => by
    have := sst_len l ts i
    simp [sst, this.1, this.2]

theorem sst_count (l : List Ev) (ts : List Int) : ∀ i j, (0 ≤ ((sst l ts i).1.getD j (0, 0, ())).2.1 ∧ ((sst l ts i).1.getD j (0, 0, ())).2.1 ≤ (i : Int)) ∧ (0 ≤ ((sst l ts i).2.getD j (0, 0, ())).2.1 ∧ ((sst l ts i).2.getD j (0, 0, ())).2.1 ≤ (i : Int)) := by
  intro i
  induction i with
  | zero =>
    intro j
    simp only [sst, List.getD_eq_getElem?_getD, List.getElem?_replicate, List.getElem?_nil, Option.getD_none]
    refine ⟨by omega, ?_⟩
    split
    · simp [noS]
    · simp
  | succ i ih =>
    intro j
    have hn : ∀ b : Stp, (0 ≤ b.2.1 ∧ b.2.1 ≤ (i : Int)) → 0 ≤ (nextS ((sst l ts i).2.getD (l.getD i (0, 0, ())).1.toNat (0, 0, ())) b (ts.getD i 0)).2.1 ∧ (nextS ((sst l ts i).2.getD (l.getD i (0, 0, ())).1.toNat (0, 0, ())) b (ts.getD i 0)).2.1 ≤ (i : Int) + 1 := fun b hb =>
      nextS_count _ _ _ (ih _).2 hb
    have hb : (0 : Int) ≤ (if 0 ≤ (l.getD i (0, 0, ())).2.1 then (sst l ts i).1.getD (l.getD i (0, 0, ())).2.1.toNat (0, 0, ()) else noS).2.1 ∧ (if 0 ≤ (l.getD i (0, 0, ())).2.1 then (sst l ts i).1.getD (l.getD i (0, 0, ())).2.1.toNat (0, 0, ()) else noS).2.1 ≤ (i : Int) := by
      split
      · exact (ih _).1
      · simp [noS]
    have h1 := hn _ hb
    have h2 := ih j
    simp only [sst, getD_app, getD_set']
    refine ⟨?_, ?_⟩
    · split
      · omega
      · omega
    · split
      · omega
      · omega

theorem rep_set {α : Type} (a z : α) {x m : Nat} (h : x < m) : (List.replicate x a ++ List.replicate (m - x) z).set x a = List.replicate (x + 1) a ++ List.replicate (m - (x + 1)) z := by
  rw [List.set_append, if_neg (by simp)]
  rw [show m - x = (m - (x + 1)) + 1 by omega, List.replicate_succ]
  simp only [List.length_replicate, Nat.sub_self, List.set_cons_zero]
  rw [List.replicate_succ', List.append_assoc]
  rfl

theorem stamps_vc (t : Tr) (ts : List Int) (k : List Dat → Prop) (hk : k [⟨.sl tSt, stamps t ts⟩, ⟨tErr, hchk t ts⟩]) : vcF ⟨Eh, [(29, cHChk), (30, cNext)]⟩ (anStamps t ts) (Try.f17.body.getD .skip) Try.f17.ntmps [(.tmp 4, .sl tSt), (.tmp 5, tErr)] [⟨tTr, t⟩, ⟨.sl I, ts⟩] k := by
  rw [vcStamps]
  simp only [decide_eq_true_eq, decide_eq_false_iff_not, and_true, true_and, Bool.not_eq_true', Bool.not_eq_false', Int.toNat_natCast, eq_self, inK_i64, List.replicate, List.set_cons_zero, List.length_cons, List.length_nil]
  have set1 : ∀ (l : List Stp) (j : Nat) (s : Stp), j < l.length → (l.set j s).getD j (0, 0, ()) = s := fun l j s h => by rw [getD_set', if_pos ⟨rfl, h⟩]
  refine ⟨fun h => ?_, fun h => ⟨⟨0, ⟨Nat.zero_le _, rfl, rfl⟩⟩, fun x hx => ⟨fun hlt => ⟨by omega, by omega, by omega, x + 1, by omega, by omega, by omega, rep_set noS _ (by omega)⟩, fun hge => ?_⟩⟩⟩
  · have : stamps t ts = [] := by unfold stamps; rw [if_neg h]
    rw [← this]; exact hk
  · have hx5 : x = 5 := by omega
    subst hx5
    have hc : chk t = 0 ∧ ts.length = t.2.1.length := by
      unfold hchk at h
      split at h
      · rename_i h1
        split at h
        · rename_i h2; exact ⟨h1, h2⟩
        · cases h
      · rename_i h1; exact absurd h h1
    have g := good_of hc.1
    have hlen := g.len
    have hpr := g.procs
    refine ⟨⟨0, Nat.zero_le _, rfl, rfl, rfl⟩, fun y hy => ⟨fun hlt => ?_, fun hge2 => ?_⟩⟩
    · have hyl : y < t.2.1.length := by omega
      obtain ⟨p0, p1, f0, f1, _⟩ := g.ev y hyl
      obtain ⟨l1, l2⟩ := sst_len t.2.1 ts y
      have hcn := sst_count t.2.1 ts y
      have hS : ∀ j, small ((sst t.2.1 ts y).2.getD j (0, 0, ())).2.1 ∧ small ((sst t.2.1 ts y).1.getD j (0, 0, ())).2.1 := fun j => by
        have := hcn j
        unfold small
        omega
      refine ⟨by omega, hlt, fun hf => ?_, fun hf => ?_⟩
      · refine ⟨hf, by omega, p0, by omega, by omega, by omega, ⟨(hS _).1, (hS _).2⟩, p0, by omega, p0, by omega, by omega, by omega, y + 1, by omega, by omega, by omega, ?_, ?_⟩
        · simp only [sst, if_pos hf]
        · rw [set1 _ _ _ (by omega)]
          simp only [sst, if_pos hf]
          rfl
      · refine ⟨p0, by omega, by omega, by omega, ⟨(hS _).1, (by unfold small; omega)⟩, p0, by omega, p0, by omega, by omega, by omega, y + 1, by omega, by omega, by omega, ?_, ?_⟩
        · simp only [sst, if_neg hf]
          rfl
        · rw [set1 _ _ _ (by omega)]
          simp only [sst, if_neg hf]
          rfl
    · have hy2 : y = t.2.1.length := by omega
      subst hy2
      have : stamps t ts = (sst t.2.1 ts t.2.1.length).1 := by unfold stamps; rw [if_pos h]
      rw [← this]
      rw [h] at hk
      exact hk

theorem okStamps : PlainOk Try.prog 17 cStamps := by
  refine plain_of (CxOk.mk' Eh_ok (by kernel_rfl) mixed (GOk.cons okHChk Try.func29 (by kernel_rfl) (by kernel_rfl) (GOk.cons okNext Try.func30 (by kernel_rfl) (by kernel_rfl) GOk.nil))) Try.func17 (c := Try.f17.body.getD .skip) (rvs := [(.tmp 4, .sl tSt), (.tmp 5, tErr)]) (by kernel_rfl) (by kernel_rfl) (by kernel_rfl) ?_
  intro ds k ⟨hp, hk⟩ hwf
  obtain ⟨t, ts, rfl, -⟩ := dest2 hp
  exact ⟨anStamps t ts, stamps_vc t ts k hk⟩

theorem same_vc (a b : List Stp) (k : List Dat → Prop) (hl : a.length ≤ maxLen) (hk : k [⟨.bool, decide (a = b)⟩]) : vcF ⟨Eh, []⟩ (anSame a b) (Try.f28.body.getD .skip) Try.f28.ntmps [(.tmp 4, .bool)] [⟨.sl tSt, a⟩, ⟨.sl tSt, b⟩] k := by
  rw [vcSame]
  have hml : maxLen ≤ 9223372036854775807 := by decide
  simp only [decide_eq_true_eq, decide_eq_false_iff_not, and_true, true_and, Bool.not_eq_true', Bool.not_eq_false', Int.toNat_natCast, inK_i64, eq_self, Bool.and_true]
  have ret : ∀ x : Bool, decide (a = b) = x → k [⟨.bool, x⟩] := by rintro _ rfl; exact hk
  refine ⟨fun h => ret _ ?_, fun h => ⟨⟨0, ⟨by omega, rfl⟩, rfl⟩, fun x ⟨hx, ht⟩ => ⟨fun hlt => ⟨by omega, hlt, by omega, by omega, fun hne => ret _ ?_, fun he => ⟨by omega, x + 1, ⟨by omega, ?_⟩, by omega, by omega⟩⟩, fun hge => ret _ ?_⟩⟩⟩
  · simp only [decide_eq_false_iff_not]; intro he; exact h (by rw [he])
  · simp only [decide_eq_false_iff_not]
    intro h
    rw [h] at hne
    simp at hne
  · have h1 : x < a.length := by omega
    have h2 : x < b.length := by omega
    simp only [Bool.and_eq_true, decide_eq_true_eq] at he
    have he' : a.getD x (0, 0, ()) = b.getD x (0, 0, ()) := Prod.ext he.1 (Prod.ext he.2 rfl)
    rw [List.take_add_one, List.take_add_one, ht]
    rw [List.getD_eq_getElem?_getD, List.getD_eq_getElem?_getD, List.getElem?_eq_getElem h1, List.getElem?_eq_getElem h2] at he'
    rw [List.getElem?_eq_getElem h1, List.getElem?_eq_getElem h2]
    simp only [Option.getD_some] at he'
    rw [he']
  · have h1 : x = a.length := by omega
    rw [h1, List.take_length, List.take_of_length_le (by omega)] at ht
    simpa using ht

theorem okSame : PlainOk Try.prog 28 cSame := by
  refine plain_of (CxOk.mk' Eh_ok (by kernel_rfl) mixed GOk.nil) Try.func28 (c := Try.f28.body.getD .skip) (rvs := [(.tmp 4, .bool)]) (by kernel_rfl) (by kernel_rfl) (by kernel_rfl) ?_
  intro ds k ⟨hp, hk⟩ hwf
  obtain ⟨a, b, rfl, -⟩ := dest2 hp
  exact ⟨anSame a b, same_vc a b k (wf2 hwf).1.1 hk⟩

theorem okHFact : PlainOk Try.prog 16 cHFact := by
  refine plain_of (CxOk.mk' Eh_ok (by kernel_rfl) mixed (GOk.cons okTalk Try.func24 (by kernel_rfl) (by kernel_rfl) (GOk.cons okStamps Try.func17 (by kernel_rfl) (by kernel_rfl) (GOk.cons okSame Try.func28 (by kernel_rfl) (by kernel_rfl) GOk.nil)))) Try.func16 (c := Try.f16.body.getD .skip) (rvs := [(.tmp 0, .bool)]) (by kernel_rfl) (by kernel_rfl) (by kernel_rfl) ?_
  intro ds k ⟨hp, hk⟩ hwf
  obtain ⟨rfl, -⟩ := dest0 hp
  have hk : k [⟨.bool, true⟩] := hk
  refine ⟨[joinAll], ?_⟩
  rw [vcHFact]
  exact ⟨trivial, trivial, fun _ => ⟨trivial, hk⟩, fun h => absurd h (by decide)⟩
end Go.Proofs.Ytgbpjjinhjikeaa
