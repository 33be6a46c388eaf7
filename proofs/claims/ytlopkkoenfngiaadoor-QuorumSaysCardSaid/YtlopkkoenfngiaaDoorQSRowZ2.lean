/- Own texts, merged: M, V5, Ok5, M2, Ok6, M3, V6, Ok7, GOk3, GV3, GOk4, GM2, GDef3, GV5, GOk5, As, Er, RDef. -/
import Derived.Test.YtlopkkoenfngiaaDoorQSRowZ1
import Derived.Test.YtlopkkoenfngiaaDoorVcNB
import Derived.Test.YtlopkkoenfngiaaDoorChecked
import Derived.WalkKit
import Derived.LaidEql
import Derived.Stop.Asserts
import Derived.RowKitTokens
import Derived.Test.YtlopkkoenfngiaaDoorVcQ
import Derived.Test.YtlopkkoenfngiaaDoorVcPA
import Derived.Test.YtlopkkoenfngiaaDoorRows
/- Quorums: sets of numbers as bits; what is full; the least ones. -/
namespace Go.Proofs.YtlopkkoenfngiaaDoor
open Go.Vc

def sub (a b : Nat) : Prop := ∀ i, a.testBit i = true → b.testBit i = true
theorem sub_and {a b : Nat} (h : sub a b) : a &&& b = a := by
  apply Nat.eq_of_testBit_eq
  intro i
  rw [Nat.testBit_and]
  cases ha : a.testBit i with
  | false => rfl
  | true => rw [h i ha]; rfl
theorem sub_le {a b : Nat} (h : sub a b) : a ≤ b := by
  have := sub_and h
  rw [← this]; exact Nat.and_le_right
theorem sub_trans {a b c : Nat} (h : sub a b) (k : sub b c) : sub a c := fun i hi => k i (h i hi)
theorem subS_iff (a b : Nat) : subS (a : Int) (b : Int) = true ↔ sub a b := by
  unfold subS
  simp only [Int.toNat_natCast, decide_eq_true_eq]
  constructor
  · intro h i hi
    have h0 : a ^^^ (a &&& b) = 0 := by omega
    have := congrArg (fun n => Nat.testBit n i) h0
    simp only [Nat.testBit_xor, Nat.testBit_and, Nat.zero_testBit, hi, Bool.true_and] at this
    simpa using this
  · intro h
    rw [sub_and h, Nat.xor_self]; rfl
theorem meet_iff {a b : Nat} : a &&& b ≠ 0 ↔ ∃ i, a.testBit i = true ∧ b.testBit i = true := by
  constructor
  · intro h
    refine Classical.byContradiction fun hc => h ?_
    apply Nat.eq_of_testBit_eq
    intro i
    rw [Nat.testBit_and, Nat.zero_testBit]
    cases ha : a.testBit i with
    | false => rfl
    | true =>
      cases hb : b.testBit i with
      | false => rfl
      | true => exact absurd ⟨i, ha, hb⟩ hc
  · rintro ⟨i, ha, hb⟩ h
    have := congrArg (fun n => Nat.testBit n i) h
    simp only [Nat.testBit_and, ha, hb, Nat.zero_testBit] at this
    cases this
theorem bit_lt {a n i : Nat} (h : a < 2 ^ n) (hi : a.testBit i = true) : i < n := by
  rcases Nat.lt_or_ge i n with h1 | h1
  · exact h1
  · have := Nat.testBit_lt_two_pow (Nat.lt_of_lt_of_le h (Nat.pow_le_pow_right (by decide) h1))
    rw [this] at hi; cases hi
theorem compl_nat (n : Int) (x : Nat) : complN n (x : Int) = (((2 ^ n.toNat - 1) ^^^ ((2 ^ n.toNat - 1) &&& x) : Nat) : Int) := by
  unfold complN
  have e : (1 * (2 : Int) ^ n.toNat - 1).toNat = 2 ^ n.toNat - 1 := by
    rw [Int.one_mul, powC]
    have := Nat.two_pow_pos n.toNat
    omega
  rw [e, Int.toNat_natCast]
theorem compl_bit (n x i : Nat) : ((2 ^ n - 1) ^^^ ((2 ^ n - 1) &&& x)).testBit i = (decide (i < n) && !x.testBit i) := by
  rw [Nat.testBit_xor, Nat.testBit_and, Nat.testBit_two_pow_sub_one]
  cases decide (i < n) <;> cases x.testBit i <;> rfl

/-- some nodes have one of the sets -/
theorem has_iff {n : Int} {l : List Int} (g : Sets n l) (v : Nat) : hasB l (v : Int) = true ↔ ∃ s : Nat, (s : Int) ∈ l ∧ sub s v := by
  unfold hasB
  rw [List.any_eq_true]
  constructor
  · rintro ⟨s, hs, h⟩
    have := g.mem s hs
    obtain ⟨m, rfl⟩ := Int.eq_ofNat_of_zero_le (show 0 ≤ s by omega)
    exact ⟨m, hs, (subS_iff m v).1 h⟩
  · rintro ⟨s, hs, h⟩
    exact ⟨_, hs, (subS_iff s v).2 h⟩
theorem memN {n : Int} {l : List Int} (g : Sets n l) {s : Nat} (h : (s : Int) ∈ l) : 0 < s ∧ s < 2 ^ n.toNat := by
  have := g.mem _ h
  rw [powC] at this
  omega

theorem firstP_some {p : Nat → Bool} : ∀ {f i x : Nat}, firstP p f i = some x → p x = true ∧ i ≤ x ∧ x < i + f := by
  intro f
  induction f with
  | zero => intro i x h; cases h
  | succ f ih =>
    intro i x h
    unfold firstP at h
    split at h
    · rename_i hp
      injection h with h; subst h
      exact ⟨hp, by omega, by omega⟩
    · have := ih h
      exact ⟨this.1, by omega, by omega⟩
theorem firstP_none {p : Nat → Bool} : ∀ {f i : Nat}, firstP p f i = none → ∀ x, i ≤ x → x < i + f → p x = false := by
  intro f
  induction f with
  | zero => intro i _ x h1 h2; omega
  | succ f ih =>
    intro i h x h1 h2
    unfold firstP at h
    split at h
    · cases h
    · rename_i hp
      by_cases hx : x = i
      · subst hx; simpa using hp
      · exact ih h x (by omega) (by omega)

theorem notfull {n : Int} {l : List Int} (hc : chkS n l = 0) (h : isF n l = false) : ∃ x : Nat, someN n l = (x : Int) ∧ x < 2 ^ n.toNat ∧ neither n l x = true := by
  unfold isF someN at *
  cases hf : fullO n l with
  | none => rw [hf] at h; cases h
  | some x =>
    refine ⟨x, rfl, ?_⟩
    unfold fullO at hf
    rw [if_pos hc] at hf
    have := firstP_some hf
    exact ⟨by omega, this.1⟩
theorem isfull {n : Int} {l : List Int} (hc : chkS n l = 0) (h : isF n l = true) (x : Nat) (hx : x < 2 ^ n.toNat) : neither n l x = false := by
  unfold isF at h
  cases hf : fullO n l with
  | some x => rw [hf] at h; cases h
  | none =>
    unfold fullO at hf
    rw [if_pos hc] at hf
    exact firstP_none hf x (by omega) (by omega)

/-- no set is among all others: each meets these -/
theorem meets_some {n : Int} {l : List Int} (g : Sets n l) {x : Nat} (h : neither n l x = true) {s : Nat} (hs : (s : Int) ∈ l) : s &&& x ≠ 0 := by
  unfold neither at h
  rw [Bool.and_eq_true, Bool.not_eq_true', Bool.not_eq_true'] at h
  rw [meet_iff]
  refine Classical.byContradiction fun hc => ?_
  have h2 := h.2
  rw [compl_nat] at h2
  have : hasB l (((2 ^ n.toNat - 1) ^^^ ((2 ^ n.toNat - 1) &&& x) : Nat) : Int) = true := by
    rw [has_iff g]
    refine ⟨s, hs, fun i hi => ?_⟩
    rw [compl_bit, decide_eq_true (bit_lt (memN g hs).2 hi)]
    cases hx : x.testBit i with
    | false => rfl
    | true => exact absurd ⟨i, hi, hx⟩ hc
  rw [this] at h2; cases h2

/-- each of other sets that meet, one of which is in each, has one of these -/
theorem full_other {n : Int} {l o : List Int} (gl' : Sets n l) (go : Sets n o) (hc : chkS n l = 0) (hf : isF n l = true) (hall : ∀ j, j < l.length → hasB o (l.getD j 0) = true) {t : Nat} (ht : (t : Int) ∈ o) : hasB l (t : Int) = true := by
  have hne := isfull hc hf t (memN go ht).2
  unfold neither at hne
  cases h1 : hasB l (t : Int) with
  | true => rfl
  | false =>
    rw [h1] at hne
    have h2 : hasB l (complN n (t : Int)) = true := by simpa using hne
    rw [compl_nat, has_iff gl'] at h2
    obtain ⟨s, hs, hsub⟩ := h2
    obtain ⟨j, hj, he⟩ := List.getElem_of_mem hs
    have h3 := hall j hj
    rw [getD_at hj, he, has_iff go] at h3
    obtain ⟨u, hu, hus⟩ := h3
    have hm := go.meet _ hu _ ht
    rw [Int.toNat_natCast, Int.toNat_natCast, meet_iff] at hm
    obtain ⟨i, hi1, hi2⟩ := hm
    have := hsub i (hus i hi1)
    rw [compl_bit, hi2] at this
    simp at this

theorem least_mem {l : List Int} {k : Nat} {s : Int} : s ∈ leastU l k ↔ ∃ x : Nat, x < k ∧ s = (x : Int) ∧ leastB l s = true := by
  unfold leastU
  rw [List.mem_filter, List.mem_map]
  constructor
  · rintro ⟨⟨x, hx, rfl⟩, h⟩
    exact ⟨x, List.mem_range.1 hx, rfl, h⟩
  · rintro ⟨x, hx, rfl, h⟩
    exact ⟨⟨x, List.mem_range.2 hx, rfl⟩, h⟩
theorem leastB_iff {n : Int} {l : List Int} (g : Sets n l) (x : Nat) : leastB l (x : Int) = true ↔ (x : Int) ∈ l ∧ ∀ t : Nat, (t : Int) ∈ l → sub t x → t = x := by
  unfold leastB
  rw [Bool.and_eq_true, List.any_eq_true, Bool.not_eq_true']
  constructor
  · rintro ⟨⟨s, hs, he⟩, h2⟩
    have he := of_decide_eq_true he
    subst he
    refine ⟨hs, fun t ht hsub => Classical.byContradiction fun hne => ?_⟩
    have : l.any (lstB (x : Int)) = true := List.any_eq_true.2 ⟨_, ht, by
      unfold lstB
      rw [(subS_iff t x).2 hsub, decide_eq_false (by omega)]; rfl⟩
    rw [this] at h2; cases h2
  · rintro ⟨h1, h2⟩
    refine ⟨⟨_, h1, decide_eq_true rfl⟩, ?_⟩
    cases h3 : l.any (lstB (x : Int)) with
    | false => rfl
    | true =>
      obtain ⟨t, ht, hb⟩ := List.any_eq_true.1 h3
      have := g.mem t ht
      obtain ⟨m, rfl⟩ := Int.eq_ofNat_of_zero_le (show 0 ≤ t by omega)
      unfold lstB at hb
      rw [Bool.and_eq_true, subS_iff] at hb
      have := h2 m ht hb.2
      subst this
      simp at hb
/-- below each set there is a least one -/
theorem least_below {n : Int} {l : List Int} (g : Sets n l) {s : Nat} (hs : (s : Int) ∈ l) : ∃ t : Nat, (t : Int) ∈ leastL n l ∧ sub t s := by
  obtain ⟨t, ⟨ht, hsub⟩, hmin⟩ := exists_least (p := fun t => (t : Int) ∈ l ∧ sub t s) ⟨s, hs, fun _ h => h⟩
  refine ⟨t, least_mem.2 ⟨t, (memN g ht).2, rfl, (leastB_iff g t).2 ⟨ht, fun u hu hut => ?_⟩⟩, hsub⟩
  have h1 := hmin u ⟨hu, sub_trans hut hsub⟩
  have h2 := sub_le hut
  omega

theorem nodup_len : ∀ {l m : List Int}, l.Nodup → (∀ x ∈ l, x ∈ m) → l.length ≤ m.length := by
  intro l
  induction l with
  | nil => intro m _ _; exact Nat.zero_le _
  | cons a r ih =>
    intro m hn hs
    have ha := hs a (.head _)
    rw [List.nodup_cons] at hn
    have := ih (m := m.erase a) hn.2 fun x hx => (List.mem_erase_of_ne (fun (e : x = a) => hn.1 (by rw [← e]; exact hx))).2 (hs x (.tail _ hx))
    rw [List.length_erase_of_mem ha] at this
    have hp := List.length_pos_of_mem ha
    rw [List.length_cons]
    omega
theorem range_nodup (k : Nat) (p : Int → Bool) : (((List.range k).map fun (i : Nat) => (i : Int)).filter p).Nodup := by
  refine List.Pairwise.filter _ ?_
  rw [List.pairwise_map]
  exact (List.pairwise_lt_range (n := k)).imp fun h => by omega
theorem getD_inj {l : List Int} (hn : l.Nodup) {i j : Nat} (hi : i < l.length) (hj : j < l.length) (hij : i ≠ j) : l.getD i 0 ≠ l.getD j 0 := by
  rw [getD_at hi, getD_at hj]
  have := List.pairwise_iff_getElem.1 hn
  rcases Nat.lt_or_gt_of_ne hij with h | h
  · exact this i j hi hj h
  · exact fun e => this j i hj hi h e.symm

theorem least_sets {n : Int} {l : List Int} (g : Sets n l) : Sets n (leastL n l) ∧ (leastL n l).length ≤ l.length := by
  have hin : ∀ s ∈ leastL n l, s ∈ l := by
    intro s hs
    obtain ⟨x, _, rfl, h⟩ := least_mem.1 hs
    exact ((leastB_iff g x).1 h).1
  have hlen := nodup_len (range_nodup (2 ^ n.toNat) (leastB l)) hin
  refine ⟨⟨g.rng, ⟨?_, Nat.le_trans hlen g.len.2⟩, fun s hs => g.mem s (hin s hs), fun s hs t ht => g.meet s (hin s hs) t (hin t ht)⟩, hlen⟩
  have h0 := getD_mem (l := l) (i := 0) g.len.1
  have := g.mem _ h0
  obtain ⟨m, hm⟩ := Int.eq_ofNat_of_zero_le (show 0 ≤ l.getD 0 0 by omega)
  rw [hm] at h0
  obtain ⟨t, ht, _⟩ := least_below g h0
  exact List.length_pos_of_mem ht

theorem least_has {n : Int} {l : List Int} (g : Sets n l) (v : Nat) : hasB l (v : Int) = hasB (leastL n l) (v : Int) := by
  rw [Bool.eq_iff_iff, has_iff g, has_iff (least_sets g).1]
  constructor
  · rintro ⟨s, hs, h⟩
    obtain ⟨t, ht, hts⟩ := least_below g hs
    exact ⟨t, ht, sub_trans hts h⟩
  · rintro ⟨s, hs, h⟩
    obtain ⟨x, _, he, hb⟩ := least_mem.1 hs
    have : s = x := by omega
    subst this
    exact ⟨s, ((leastB_iff g s).1 hb).1, h⟩

theorem least_apart {n : Int} {l : List Int} (g : Sets n l) {i j : Nat} (hi : i < (leastL n l).length) (hj : j < (leastL n l).length) (hij : i ≠ j) : subB ((leastL n l).getD i 0) ((leastL n l).getD j 0) = false := by
  have hne := getD_inj (range_nodup (2 ^ n.toNat) (leastB l)) hi hj hij
  obtain ⟨x, _, hx, hbx⟩ := least_mem.1 (getD_mem hi)
  obtain ⟨y, _, hy, hby⟩ := least_mem.1 (getD_mem hj)
  have hne' : (leastL n l).getD i 0 ≠ (leastL n l).getD j 0 := hne
  have hx' : (leastL n l).getD i 0 = (x : Int) := hx
  have hy' : (leastL n l).getD j 0 = (y : Int) := hy
  have hbx' : leastB l (x : Int) = true := by rw [← hx]; exact hbx
  have hby' : leastB l (y : Int) = true := by rw [← hy]; exact hby
  rw [hx', hy'] at hne'
  rw [hx', hy']
  cases h : subB (x : Int) (y : Int) with
  | false => rfl
  | true =>
    have := ((leastB_iff g y).1 hby').2 x ((leastB_iff g x).1 hbx').1 ((subB_iff x y).1 h)
    exact absurd (by rw [this]) hne'
end Go.Proofs.YtlopkkoenfngiaaDoor

/- What the functions of this seat have to satisfy, by program: each verification condition in plain words. -/
namespace Go.Proofs.YtlopkkoenfngiaaDoor
open Go.Vc
set_option linter.unusedVariables false
theorem vcFact (k : List Dat → Prop) : vcF ⟨Et, [(13, cVotes), (18, cFull), (29, cInts)], glT, [], []⟩ [] (Tryd.f12.body.getD .skip) Tryd.f12.ntmps [(.tmp 0, .bool)] [] k = (
  True ∧ True ∧ True ∧ (decide (votesE ((((List.replicate (3 : Nat) (0 : Int)).set (0 : Nat) (1 : Int)).set (1 : Nat) (1 : Int)).set (2 : Nat) (1 : Int)) (2 : Int) = (0 : Int)) = true → (decide (chkS (3 : Int) ((((List.replicate (3 : Nat) (0 : Int)).set (0 : Nat) (3 : Int)).set (1 : Nat) (5 : Int)).set (2 : Nat) (6 : Int)) = (0 : Int)) = true → (decide (chkS (4 : Int) (((((List.replicate (4 : Nat) (0 : Int)).set (0 : Nat) (7 : Int)).set (1 : Nat) (11 : Int)).set (2 : Nat) (13 : Int)).set (3 : Nat) (14 : Int)) = (0 : Int)) = true → True ∧ ((votesL ((((List.replicate (3 : Nat) (0 : Int)).set (0 : Nat) (1 : Int)).set (1 : Nat) (1 : Int)).set (2 : Nat) (1 : Int)) (2 : Int) == (((List.replicate (3 : Nat) (0 : Int)).set (0 : Nat) (3 : Int)).set (1 : Nat) (5 : Int)).set (2 : Nat) (6 : Int)) = true → (isF (3 : Int) ((((List.replicate (3 : Nat) (0 : Int)).set (0 : Nat) (3 : Int)).set (1 : Nat) (5 : Int)).set (2 : Nat) (6 : Int)) = true → ((!isF (4 : Int) (((((List.replicate (4 : Nat) (0 : Int)).set (0 : Nat) (7 : Int)).set (1 : Nat) (11 : Int)).set (2 : Nat) (13 : Int)).set (3 : Nat) (14 : Int))) = true → k [Dat.mk Ty.bool (decide (someN (4 : Int) (((((List.replicate (4 : Nat) (0 : Int)).set (0 : Nat) (7 : Int)).set (1 : Nat) (11 : Int)).set (2 : Nat) (13 : Int)).set (3 : Nat) (14 : Int)) = (3 : Int)))]) ∧ ((!isF (4 : Int) (((((List.replicate (4 : Nat) (0 : Int)).set (0 : Nat) (7 : Int)).set (1 : Nat) (11 : Int)).set (2 : Nat) (13 : Int)).set (3 : Nat) (14 : Int))) = false → k [Dat.mk Ty.bool false])) ∧ (isF (3 : Int) ((((List.replicate (3 : Nat) (0 : Int)).set (0 : Nat) (3 : Int)).set (1 : Nat) (5 : Int)).set (2 : Nat) (6 : Int)) = false → k [Dat.mk Ty.bool false])) ∧ ((votesL ((((List.replicate (3 : Nat) (0 : Int)).set (0 : Nat) (1 : Int)).set (1 : Nat) (1 : Int)).set (2 : Nat) (1 : Int)) (2 : Int) == (((List.replicate (3 : Nat) (0 : Int)).set (0 : Nat) (3 : Int)).set (1 : Nat) (5 : Int)).set (2 : Nat) (6 : Int)) = false → k [Dat.mk Ty.bool false])) ∧ (decide (chkS (4 : Int) (((((List.replicate (4 : Nat) (0 : Int)).set (0 : Nat) (7 : Int)).set (1 : Nat) (11 : Int)).set (2 : Nat) (13 : Int)).set (3 : Nat) (14 : Int)) = (0 : Int)) = false → k [Dat.mk Ty.bool false])) ∧ (decide (chkS (3 : Int) ((((List.replicate (3 : Nat) (0 : Int)).set (0 : Nat) (3 : Int)).set (1 : Nat) (5 : Int)).set (2 : Nat) (6 : Int)) = (0 : Int)) = false → k [Dat.mk Ty.bool false])) ∧ (decide (votesE ((((List.replicate (3 : Nat) (0 : Int)).set (0 : Nat) (1 : Int)).set (1 : Nat) (1 : Int)).set (2 : Nat) (1 : Int)) (2 : Int) = (0 : Int)) = false → k [Dat.mk Ty.bool false])) := by kernel_rfl
theorem vcQV (w : List Int) (need : Int) (k : List Dat → Prop) : vcF ⟨Et, [(12, cFact), (13, cVotes), (14, cPow2), (15, cBoth), (16, cSub), (17, cSumL)], glT, [], []⟩ (anQV w need) (Tryd.f3.body.getD .skip) Tryd.f3.ntmps [(.tmp 4, .bool)] [⟨.sl I, w⟩, ⟨I, need⟩] k = (
  True ∧ ((!true) = true → k [Dat.mk Ty.bool false]) ∧ ((!true) = false → True ∧ ((!decide (votesE w need = (0 : Int))) = true → k [Dat.mk Ty.bool (decide ((↑(votesL w need).length : Int) = (0 : Int)))]) ∧ ((!decide (votesE w need = (0 : Int))) = false → (∃ (x : Nat), (x ≤ (votesL w need).length ∧ votesE w need = (0 : Int)) ∧ (w = w ∧ need = need ∧ votesL w need = votesL w need ∧ (↑w.length : Int) = (↑w.length : Int) ∧ (0 : Int) = (↑x : Int) ∧ True) ∧ True ∧ tabD = tabD ∧ True) ∧ ∀ (x : Nat), x ≤ (votesL w need).length ∧ votesE w need = (0 : Int) → (decide ((↑x : Int) < (↑(votesL w need).length : Int)) = true → ((0 : Int) ≤ (↑x : Int) ∧ (↑x : Int) < (↑(votesL w need).length : Int) ∧ (decide ((votesL w need).getD (↑x : Int).toNat (0 : Int) < (1 : Int)) = true → True) ∧ (decide ((votesL w need).getD (↑x : Int).toNat (0 : Int) < (1 : Int)) = false → (0 : Int) ≤ (↑x : Int) ∧ (↑x : Int) < (↑(votesL w need).length : Int) ∧ ((↑w.length : Int) ≤ (61 : Int) ∧ True) ∧ True)) ∧ ((decide ((votesL w need).getD (↑x : Int).toNat (0 : Int) < (1 : Int)) || decide ((2 : Int) ^ (↑w.length : Int).toNat ≤ (votesL w need).getD (↑x : Int).toNat (0 : Int))) = true → k [Dat.mk Ty.bool false]) ∧ ((decide ((votesL w need).getD (↑x : Int).toNat (0 : Int) < (1 : Int)) || decide ((2 : Int) ^ (↑w.length : Int).toNat ≤ (votesL w need).getD (↑x : Int).toNat (0 : Int))) = false → (∃ (x_1 : Nat), ((↑x_1 : Int) ≤ (↑x : Int) ∧ True) ∧ (w = w ∧ need = need ∧ votesL w need = votesL w need ∧ (↑w.length : Int) = (↑w.length : Int) ∧ (↑x : Int) = (↑x : Int) ∧ (0 : Int) = (↑x_1 : Int) ∧ True) ∧ True ∧ tabD = tabD ∧ True) ∧ ∀ (x_1 : Nat), (↑x_1 : Int) ≤ (↑x : Int) ∧ True → (decide ((↑x_1 : Int) < (↑x : Int)) = true → ((0 : Int) ≤ (↑x : Int) ∧ (↑x : Int) < (↑(votesL w need).length : Int) ∧ (0 : Int) ≤ (↑x_1 : Int) ∧ (↑x_1 : Int) < (↑(votesL w need).length : Int) ∧ ((votesL w need).getD (↑x : Int).toNat (0 : Int) < (2305843009213693952 : Int) ∧ True) ∧ (decide ((↑(((votesL w need).getD (↑x : Int).toNat (0 : Int)).toNat &&& ((votesL w need).getD (↑x_1 : Int).toNat (0 : Int)).toNat) : Int) = (0 : Int)) = true → True) ∧ (decide ((↑(((votesL w need).getD (↑x : Int).toNat (0 : Int)).toNat &&& ((votesL w need).getD (↑x_1 : Int).toNat (0 : Int)).toNat) : Int) = (0 : Int)) = false → (0 : Int) ≤ (↑x : Int) ∧ (↑x : Int) < (↑(votesL w need).length : Int) ∧ (0 : Int) ≤ (↑x_1 : Int) ∧ (↑x_1 : Int) < (↑(votesL w need).length : Int) ∧ True ∧ (subB ((votesL w need).getD (↑x : Int).toNat (0 : Int)) ((votesL w need).getD (↑x_1 : Int).toNat (0 : Int)) = true → True) ∧ (subB ((votesL w need).getD (↑x : Int).toNat (0 : Int)) ((votesL w need).getD (↑x_1 : Int).toNat (0 : Int)) = false → (0 : Int) ≤ (↑x_1 : Int) ∧ (↑x_1 : Int) < (↑(votesL w need).length : Int) ∧ (0 : Int) ≤ (↑x : Int) ∧ (↑x : Int) < (↑(votesL w need).length : Int) ∧ True ∧ True))) ∧ ((decide ((↑(((votesL w need).getD (↑x : Int).toNat (0 : Int)).toNat &&& ((votesL w need).getD (↑x_1 : Int).toNat (0 : Int)).toNat) : Int) = (0 : Int)) || (subB ((votesL w need).getD (↑x : Int).toNat (0 : Int)) ((votesL w need).getD (↑x_1 : Int).toNat (0 : Int)) || subB ((votesL w need).getD (↑x_1 : Int).toNat (0 : Int)) ((votesL w need).getD (↑x : Int).toNat (0 : Int)))) = true → k [Dat.mk Ty.bool false]) ∧ ((decide ((↑(((votesL w need).getD (↑x : Int).toNat (0 : Int)).toNat &&& ((votesL w need).getD (↑x_1 : Int).toNat (0 : Int)).toNat) : Int) = (0 : Int)) || (subB ((votesL w need).getD (↑x : Int).toNat (0 : Int)) ((votesL w need).getD (↑x_1 : Int).toNat (0 : Int)) || subB ((votesL w need).getD (↑x_1 : Int).toNat (0 : Int)) ((votesL w need).getD (↑x : Int).toNat (0 : Int)))) = false → inK IntKind.i64 ((↑x_1 : Int) + (1 : Int)) ∧ ∃ (x_2 : Nat), ((↑x_2 : Int) ≤ (↑x : Int) ∧ True) ∧ (votesL w need).length - x_2 < (votesL w need).length - x_1 ∧ (w = w ∧ need = need ∧ votesL w need = votesL w need ∧ (↑w.length : Int) = (↑w.length : Int) ∧ (↑x : Int) = (↑x : Int) ∧ (↑x_1 : Int) + (1 : Int) = (↑x_2 : Int) ∧ True) ∧ True ∧ tabD = tabD ∧ True)) ∧ (decide ((↑x_1 : Int) < (↑x : Int)) = false → inK IntKind.i64 ((↑x : Int) + (1 : Int)) ∧ ∃ (x_2 : Nat), (x_2 ≤ (votesL w need).length ∧ votesE w need = (0 : Int)) ∧ (votesL w need).length - x_2 < (votesL w need).length - x ∧ (w = w ∧ need = need ∧ votesL w need = votesL w need ∧ (↑w.length : Int) = (↑w.length : Int) ∧ (↑x : Int) + (1 : Int) = (↑x_2 : Int) ∧ True) ∧ True ∧ tabD = tabD ∧ True))) ∧ (decide ((↑x : Int) < (↑(votesL w need).length : Int)) = false → (decide ((↑(votesL w need).length : Int) = (0 : Int)) = true → k [Dat.mk Ty.bool false]) ∧ (decide ((↑(votesL w need).length : Int) = (0 : Int)) = false → inK IntKind.i64 (need + (1 : Int)) ∧ True ∧ ((!decide (votesE w (need + (1 : Int)) = (0 : Int))) = true → ((∀ (x : Int), x ∈ w → (0 : Int) ≤ x ∧ x ≤ (20 : Int)) ∧ w.length ≤ (8 : Nat)) ∧ k [Dat.mk Ty.bool (decide (w.sum ≤ need))]) ∧ ((!decide (votesE w (need + (1 : Int)) = (0 : Int))) = false → (∃ (x : Nat), (x ≤ (votesL w (need + (1 : Int))).length ∧ votesE w need = (0 : Int) ∧ votesE w (need + (1 : Int)) = (0 : Int)) ∧ (votesL w need = votesL w need ∧ votesL w (need + (1 : Int)) = votesL w (need + (1 : Int)) ∧ (0 : Int) = (↑x : Int) ∧ True) ∧ True ∧ tabD = tabD ∧ True) ∧ ∀ (x : Nat), x ≤ (votesL w (need + (1 : Int))).length ∧ votesE w need = (0 : Int) ∧ votesE w (need + (1 : Int)) = (0 : Int) → (decide ((↑x : Int) < (↑(votesL w (need + (1 : Int))).length : Int)) = true → (∃ (x_1 : Nat), (x_1 ≤ (votesL w need).length ∧ True) ∧ (votesL w need = votesL w need ∧ votesL w (need + (1 : Int)) = votesL w (need + (1 : Int)) ∧ (↑x : Int) = (↑x : Int) ∧ false = someB (votesL w need) ((votesL w (need + (1 : Int))).getD (↑x : Int).toNat (0 : Int)) x_1 ∧ (0 : Int) = (↑x_1 : Int) ∧ True) ∧ True ∧ tabD = tabD ∧ True) ∧ ∀ (x_1 : Nat), x_1 ≤ (votesL w need).length ∧ True → (decide ((↑x_1 : Int) < (↑(votesL w need).length : Int)) = true → ((someB (votesL w need) ((votesL w (need + (1 : Int))).getD (↑x : Int).toNat (0 : Int)) x_1 = true → True) ∧ (someB (votesL w need) ((votesL w (need + (1 : Int))).getD (↑x : Int).toNat (0 : Int)) x_1 = false → (0 : Int) ≤ (↑x : Int) ∧ (↑x : Int) < (↑(votesL w (need + (1 : Int))).length : Int) ∧ (decide ((0 : Int) < (votesL w (need + (1 : Int))).getD (↑x : Int).toNat (0 : Int)) = true → (0 : Int) ≤ (↑x_1 : Int) ∧ (↑x_1 : Int) < (↑(votesL w need).length : Int) ∧ (0 : Int) ≤ (↑x : Int) ∧ (↑x : Int) < (↑(votesL w (need + (1 : Int))).length : Int) ∧ True ∧ True) ∧ (decide ((0 : Int) < (votesL w (need + (1 : Int))).getD (↑x : Int).toNat (0 : Int)) = false → True))) ∧ inK IntKind.i64 ((↑x_1 : Int) + (1 : Int)) ∧ ∃ (x_2 : Nat), (x_2 ≤ (votesL w need).length ∧ True) ∧ (votesL w need).length - x_2 < (votesL w need).length - x_1 ∧ (votesL w need = votesL w need ∧ votesL w (need + (1 : Int)) = votesL w (need + (1 : Int)) ∧ (↑x : Int) = (↑x : Int) ∧ (someB (votesL w need) ((votesL w (need + (1 : Int))).getD (↑x : Int).toNat (0 : Int)) x_1 || decide ((0 : Int) < (votesL w (need + (1 : Int))).getD (↑x : Int).toNat (0 : Int)) && subB ((votesL w need).getD (↑x_1 : Int).toNat (0 : Int)) ((votesL w (need + (1 : Int))).getD (↑x : Int).toNat (0 : Int))) = someB (votesL w need) ((votesL w (need + (1 : Int))).getD (↑x : Int).toNat (0 : Int)) x_2 ∧ (↑x_1 : Int) + (1 : Int) = (↑x_2 : Int) ∧ True) ∧ True ∧ tabD = tabD ∧ True) ∧ (decide ((↑x_1 : Int) < (↑(votesL w need).length : Int)) = false → ((!someB (votesL w need) ((votesL w (need + (1 : Int))).getD (↑x : Int).toNat (0 : Int)) x_1) = true → k [Dat.mk Ty.bool false]) ∧ ((!someB (votesL w need) ((votesL w (need + (1 : Int))).getD (↑x : Int).toNat (0 : Int)) x_1) = false → inK IntKind.i64 ((↑x : Int) + (1 : Int)) ∧ ∃ (x_2 : Nat), (x_2 ≤ (votesL w (need + (1 : Int))).length ∧ votesE w need = (0 : Int) ∧ votesE w (need + (1 : Int)) = (0 : Int)) ∧ (votesL w (need + (1 : Int))).length - x_2 < (votesL w (need + (1 : Int))).length - x ∧ (votesL w need = votesL w need ∧ votesL w (need + (1 : Int)) = votesL w (need + (1 : Int)) ∧ (↑x : Int) + (1 : Int) = (↑x_2 : Int) ∧ True) ∧ True ∧ tabD = tabD ∧ True))) ∧ (decide ((↑x : Int) < (↑(votesL w (need + (1 : Int))).length : Int)) = false → k [Dat.mk Ty.bool true]))))))) := by kernel_rfl
theorem vcQF (n : Int) (l o : List Int) (k : List Dat → Prop) : vcF ⟨Et, [(12, cFact), (18, cFull), (19, cHas), (20, cCheck), (14, cPow2), (15, cBoth)], glT, [], []⟩ (anQF n l o) (Tryd.f4.body.getD .skip) Tryd.f4.ntmps [(.tmp 6, .bool)] [⟨I, n⟩, ⟨.sl I, l⟩, ⟨.sl I, o⟩] k = (
  True ∧ ((!true) = true → k [Dat.mk Ty.bool false]) ∧ ((!true) = false → True ∧ ((!decide (chkS n l = (0 : Int))) = true → ((!isF n l) = true → k [Dat.mk Ty.bool (decide (someN n l = (0 : Int)))]) ∧ ((!isF n l) = false → k [Dat.mk Ty.bool false])) ∧ ((!decide (chkS n l = (0 : Int))) = false → ((!isF n l) = true → (decide (someN n l < (0 : Int)) = true → k [Dat.mk Ty.bool false]) ∧ (decide (someN n l < (0 : Int)) = false → (n ≤ (61 : Int) ∧ True) ∧ (decide ((2 : Int) ^ n.toNat ≤ someN n l) = true → k [Dat.mk Ty.bool false]) ∧ (decide ((2 : Int) ^ n.toNat ≤ someN n l) = false → True ∧ (∃ (x : Nat), (x ≤ l.length ∧ chkS n l = (0 : Int) ∧ isF n l = false) ∧ (n = n ∧ l = l ∧ o = o ∧ someN n l = someN n l ∧ ((if hasE n l (someN n l) = (0 : Int) then hasB l (someN n l) else false) = if hasE n l (someN n l) = (0 : Int) then hasB l (someN n l) else false) ∧ hasE n l (someN n l) = hasE n l (someN n l) ∧ (0 : Int) = (↑x : Int) ∧ True) ∧ True ∧ tabD = tabD ∧ True) ∧ ∀ (x : Nat), x ≤ l.length ∧ chkS n l = (0 : Int) ∧ isF n l = false → (decide ((↑x : Int) < (↑l.length : Int)) = true → (0 : Int) ≤ (↑x : Int) ∧ (↑x : Int) < (↑l.length : Int) ∧ (l.getD (↑x : Int).toNat (0 : Int) < (2305843009213693952 : Int) ∧ True) ∧ (decide ((↑((l.getD (↑x : Int).toNat (0 : Int)).toNat &&& (someN n l).toNat) : Int) = (0 : Int)) = true → k [Dat.mk Ty.bool false]) ∧ (decide ((↑((l.getD (↑x : Int).toNat (0 : Int)).toNat &&& (someN n l).toNat) : Int) = (0 : Int)) = false → inK IntKind.i64 ((↑x : Int) + (1 : Int)) ∧ ∃ (x_1 : Nat), (x_1 ≤ l.length ∧ chkS n l = (0 : Int) ∧ isF n l = false) ∧ l.length - x_1 < l.length - x ∧ (n = n ∧ l = l ∧ o = o ∧ someN n l = someN n l ∧ ((if hasE n l (someN n l) = (0 : Int) then hasB l (someN n l) else false) = if hasE n l (someN n l) = (0 : Int) then hasB l (someN n l) else false) ∧ hasE n l (someN n l) = hasE n l (someN n l) ∧ (↑x : Int) + (1 : Int) = (↑x_1 : Int) ∧ True) ∧ True ∧ tabD = tabD ∧ True)) ∧ (decide ((↑x : Int) < (↑l.length : Int)) = false → (decide (hasE n l (someN n l) = (0 : Int)) = true → k [Dat.mk Ty.bool !if hasE n l (someN n l) = (0 : Int) then hasB l (someN n l) else false]) ∧ (decide (hasE n l (someN n l) = (0 : Int)) = false → k [Dat.mk Ty.bool false]))))) ∧ ((!isF n l) = false → True ∧ ((!decide (chkS n o = (0 : Int))) = true → k [Dat.mk Ty.bool true]) ∧ ((!decide (chkS n o = (0 : Int))) = false → (∃ (x : Nat), (x ≤ l.length ∧ chkS n l = (0 : Int) ∧ isF n l = true ∧ chkS n o = (0 : Int) ∧ ∀ (j : Nat), j < x → hasB o (l.getD j (0 : Int)) = true) ∧ (n = n ∧ l = l ∧ o = o ∧ (0 : Int) = (↑x : Int) ∧ True) ∧ True ∧ tabD = tabD ∧ True) ∧ ∀ (x : Nat), (x ≤ l.length ∧ chkS n l = (0 : Int) ∧ isF n l = true ∧ chkS n o = (0 : Int) ∧ ∀ (j : Nat), j < x → hasB o (l.getD j (0 : Int)) = true) → (decide ((↑x : Int) < (↑l.length : Int)) = true → (0 : Int) ≤ (↑x : Int) ∧ (↑x : Int) < (↑l.length : Int) ∧ True ∧ ((!decide (hasE n o (l.getD (↑x : Int).toNat (0 : Int)) = (0 : Int))) = true → k [Dat.mk Ty.bool false]) ∧ ((!decide (hasE n o (l.getD (↑x : Int).toNat (0 : Int)) = (0 : Int))) = false → ((!if hasE n o (l.getD (↑x : Int).toNat (0 : Int)) = (0 : Int) then hasB o (l.getD (↑x : Int).toNat (0 : Int)) else false) = true → k [Dat.mk Ty.bool true]) ∧ ((!if hasE n o (l.getD (↑x : Int).toNat (0 : Int)) = (0 : Int) then hasB o (l.getD (↑x : Int).toNat (0 : Int)) else false) = false → inK IntKind.i64 ((↑x : Int) + (1 : Int)) ∧ ∃ (x_1 : Nat), (x_1 ≤ l.length ∧ chkS n l = (0 : Int) ∧ isF n l = true ∧ chkS n o = (0 : Int) ∧ ∀ (j : Nat), j < x_1 → hasB o (l.getD j (0 : Int)) = true) ∧ l.length - x_1 < l.length - x ∧ (n = n ∧ l = l ∧ o = o ∧ (↑x : Int) + (1 : Int) = (↑x_1 : Int) ∧ True) ∧ True ∧ tabD = tabD ∧ True))) ∧ (decide ((↑x : Int) < (↑l.length : Int)) = false → (∃ (x : Nat), (x ≤ o.length ∧ chkS n l = (0 : Int) ∧ isF n l = true ∧ chkS n o = (0 : Int) ∧ ∀ (j : Nat), j < l.length → hasB o (l.getD j (0 : Int)) = true) ∧ (n = n ∧ l = l ∧ o = o ∧ (0 : Int) = (↑x : Int) ∧ True) ∧ True ∧ tabD = tabD ∧ True) ∧ ∀ (x : Nat), (x ≤ o.length ∧ chkS n l = (0 : Int) ∧ isF n l = true ∧ chkS n o = (0 : Int) ∧ ∀ (j : Nat), j < l.length → hasB o (l.getD j (0 : Int)) = true) → (decide ((↑x : Int) < (↑o.length : Int)) = true → (0 : Int) ≤ (↑x : Int) ∧ (↑x : Int) < (↑o.length : Int) ∧ True ∧ ((!decide (hasE n l (o.getD (↑x : Int).toNat (0 : Int)) = (0 : Int))) = true → k [Dat.mk Ty.bool false]) ∧ ((!decide (hasE n l (o.getD (↑x : Int).toNat (0 : Int)) = (0 : Int))) = false → ((!if hasE n l (o.getD (↑x : Int).toNat (0 : Int)) = (0 : Int) then hasB l (o.getD (↑x : Int).toNat (0 : Int)) else false) = true → k [Dat.mk Ty.bool false]) ∧ ((!if hasE n l (o.getD (↑x : Int).toNat (0 : Int)) = (0 : Int) then hasB l (o.getD (↑x : Int).toNat (0 : Int)) else false) = false → inK IntKind.i64 ((↑x : Int) + (1 : Int)) ∧ ∃ (x_1 : Nat), (x_1 ≤ o.length ∧ chkS n l = (0 : Int) ∧ isF n l = true ∧ chkS n o = (0 : Int) ∧ ∀ (j : Nat), j < l.length → hasB o (l.getD j (0 : Int)) = true) ∧ o.length - x_1 < o.length - x ∧ (n = n ∧ l = l ∧ o = o ∧ (↑x : Int) + (1 : Int) = (↑x_1 : Int) ∧ True) ∧ True ∧ tabD = tabD ∧ True))) ∧ (decide ((↑x : Int) < (↑o.length : Int)) = false → k [Dat.mk Ty.bool true]))))))) := by kernel_rfl
theorem vcQL (n : Int) (l : List Int) (v : Int) (k : List Dat → Prop) : vcF ⟨Et, [(12, cFact), (21, cLeast), (19, cHas), (20, cCheck), (16, cSub)], glT, [], []⟩ (anQL n l) (Tryd.f5.body.getD .skip) Tryd.f5.ntmps [(.tmp 6, .bool)] [⟨I, n⟩, ⟨.sl I, l⟩, ⟨I, v⟩] k = (
  True ∧ ((!true) = true → k [Dat.mk Ty.bool false]) ∧ ((!true) = false → True ∧ ((!decide (chkS n l = (0 : Int))) = true → k [Dat.mk Ty.bool (decide ((↑(if chkS n l = (0 : Int) then leastU l ((2 : Nat) ^ n.toNat) else []).length : Int) = (0 : Int)))]) ∧ ((!decide (chkS n l = (0 : Int))) = false → True ∧ ((!decide (chkS n (if chkS n l = (0 : Int) then leastU l ((2 : Nat) ^ n.toNat) else []) = (0 : Int))) = true → k [Dat.mk Ty.bool false]) ∧ ((!decide (chkS n (if chkS n l = (0 : Int) then leastU l ((2 : Nat) ^ n.toNat) else []) = (0 : Int))) = false → (decide ((↑l.length : Int) < (↑(if chkS n l = (0 : Int) then leastU l ((2 : Nat) ^ n.toNat) else []).length : Int)) = true → k [Dat.mk Ty.bool false]) ∧ (decide ((↑l.length : Int) < (↑(if chkS n l = (0 : Int) then leastU l ((2 : Nat) ^ n.toNat) else []).length : Int)) = false → (∃ (x : Nat), (x ≤ (leastL n l).length ∧ chkS n l = (0 : Int)) ∧ (n = n ∧ l = l ∧ v = v ∧ ((if chkS n l = (0 : Int) then leastU l ((2 : Nat) ^ n.toNat) else []) = if chkS n l = (0 : Int) then leastU l ((2 : Nat) ^ n.toNat) else []) ∧ (0 : Int) = (↑x : Int) ∧ True) ∧ True ∧ tabD = tabD ∧ True) ∧ ∀ (x : Nat), x ≤ (leastL n l).length ∧ chkS n l = (0 : Int) → (decide ((↑x : Int) < (↑(if chkS n l = (0 : Int) then leastU l ((2 : Nat) ^ n.toNat) else []).length : Int)) = true → (∃ (x_1 : Nat), (x_1 ≤ (leastL n l).length ∧ True) ∧ (n = n ∧ l = l ∧ v = v ∧ ((if chkS n l = (0 : Int) then leastU l ((2 : Nat) ^ n.toNat) else []) = if chkS n l = (0 : Int) then leastU l ((2 : Nat) ^ n.toNat) else []) ∧ (↑x : Int) = (↑x : Int) ∧ (0 : Int) = (↑x_1 : Int) ∧ True) ∧ True ∧ tabD = tabD ∧ True) ∧ ∀ (x_1 : Nat), x_1 ≤ (leastL n l).length ∧ True → (decide ((↑x_1 : Int) < (↑(if chkS n l = (0 : Int) then leastU l ((2 : Nat) ^ n.toNat) else []).length : Int)) = true → (((!decide ((↑x : Int) = (↑x_1 : Int))) = true → (0 : Int) ≤ (↑x : Int) ∧ (↑x : Int) < (↑(if chkS n l = (0 : Int) then leastU l ((2 : Nat) ^ n.toNat) else []).length : Int) ∧ (0 : Int) ≤ (↑x_1 : Int) ∧ (↑x_1 : Int) < (↑(if chkS n l = (0 : Int) then leastU l ((2 : Nat) ^ n.toNat) else []).length : Int) ∧ True ∧ True) ∧ ((!decide ((↑x : Int) = (↑x_1 : Int))) = false → True)) ∧ ((!decide ((↑x : Int) = (↑x_1 : Int)) && subB ((if chkS n l = (0 : Int) then leastU l ((2 : Nat) ^ n.toNat) else []).getD (↑x : Int).toNat (0 : Int)) ((if chkS n l = (0 : Int) then leastU l ((2 : Nat) ^ n.toNat) else []).getD (↑x_1 : Int).toNat (0 : Int))) = true → k [Dat.mk Ty.bool false]) ∧ ((!decide ((↑x : Int) = (↑x_1 : Int)) && subB ((if chkS n l = (0 : Int) then leastU l ((2 : Nat) ^ n.toNat) else []).getD (↑x : Int).toNat (0 : Int)) ((if chkS n l = (0 : Int) then leastU l ((2 : Nat) ^ n.toNat) else []).getD (↑x_1 : Int).toNat (0 : Int))) = false → inK IntKind.i64 ((↑x_1 : Int) + (1 : Int)) ∧ ∃ (x_2 : Nat), (x_2 ≤ (leastL n l).length ∧ True) ∧ (leastL n l).length - x_2 < (leastL n l).length - x_1 ∧ (n = n ∧ l = l ∧ v = v ∧ ((if chkS n l = (0 : Int) then leastU l ((2 : Nat) ^ n.toNat) else []) = if chkS n l = (0 : Int) then leastU l ((2 : Nat) ^ n.toNat) else []) ∧ (↑x : Int) = (↑x : Int) ∧ (↑x_1 : Int) + (1 : Int) = (↑x_2 : Int) ∧ True) ∧ True ∧ tabD = tabD ∧ True)) ∧ (decide ((↑x_1 : Int) < (↑(if chkS n l = (0 : Int) then leastU l ((2 : Nat) ^ n.toNat) else []).length : Int)) = false → inK IntKind.i64 ((↑x : Int) + (1 : Int)) ∧ ∃ (x_2 : Nat), (x_2 ≤ (leastL n l).length ∧ chkS n l = (0 : Int)) ∧ (leastL n l).length - x_2 < (leastL n l).length - x ∧ (n = n ∧ l = l ∧ v = v ∧ ((if chkS n l = (0 : Int) then leastU l ((2 : Nat) ^ n.toNat) else []) = if chkS n l = (0 : Int) then leastU l ((2 : Nat) ^ n.toNat) else []) ∧ (↑x : Int) + (1 : Int) = (↑x_2 : Int) ∧ True) ∧ True ∧ tabD = tabD ∧ True)) ∧ (decide ((↑x : Int) < (↑(if chkS n l = (0 : Int) then leastU l ((2 : Nat) ^ n.toNat) else []).length : Int)) = false → True ∧ True ∧ (((decide (hasE n l v = (0 : Int)) == decide (hasE n (if chkS n l = (0 : Int) then leastU l ((2 : Nat) ^ n.toNat) else []) v = (0 : Int))) = true → True) ∧ ((decide (hasE n l v = (0 : Int)) == decide (hasE n (if chkS n l = (0 : Int) then leastU l ((2 : Nat) ^ n.toNat) else []) v = (0 : Int))) = false → True)) ∧ k [Dat.mk Ty.bool (decide (hasE n l v = (0 : Int)) == decide (hasE n (if chkS n l = (0 : Int) then leastU l ((2 : Nat) ^ n.toNat) else []) v = (0 : Int)) && (if hasE n l v = (0 : Int) then hasB l v else false) == if hasE n (if chkS n l = (0 : Int) then leastU l ((2 : Nat) ^ n.toNat) else []) v = (0 : Int) then hasB (if chkS n l = (0 : Int) then leastU l ((2 : Nat) ^ n.toNat) else []) v else false)])))))) := by kernel_rfl
end Go.Proofs.YtlopkkoenfngiaaDoor

/- Quorums: the closed fact; the laws of what is full, and of the least ones. -/
namespace Go.Proofs.YtlopkkoenfngiaaDoor
open Go.Vc

theorem okFact : PlainOk Tryd.prog glT 12 cFact := by
  refine plain_of (CxOk.mk' Et_ok rfl mixed (gl := glT) (GOk.cons okVotes Tryd.func13 (by kernel_rfl) (by kernel_rfl) (GOk.cons okFull Tryd.func18 (by kernel_rfl) (by kernel_rfl) (GOk.cons okInts Tryd.func29 (by kernel_rfl) (by kernel_rfl) GOk.nil))) GoOk.nil noIt) Tryd.func12 (c := Tryd.f12.body.getD .skip) (rvs := [(.tmp 0, .bool)]) (by kernel_rfl) (by kernel_rfl) (by kernel_rfl) ?_
  intro ds k ⟨hp, hk⟩ hwf
  obtain ⟨rfl, -⟩ := dest0 hp
  have hk : k [⟨.bool, true⟩] := hk
  refine ⟨[], ?_⟩
  rw [vcFact]
  have l1 : (((List.replicate 3 (0 : Int)).set 0 1).set 1 1).set 2 1 = [1, 1, 1] := rfl
  have l2 : (((List.replicate 3 (0 : Int)).set 0 3).set 1 5).set 2 6 = [3, 5, 6] := rfl
  have l3 : ((((List.replicate 4 (0 : Int)).set 0 7).set 1 11).set 2 13).set 3 14 = [7, 11, 13, 14] := rfl
  have e1 : votesE [1, 1, 1] 2 = 0 := by decide +kernel
  have e2 : chkS 3 [3, 5, 6] = 0 := by decide +kernel
  have e3 : chkS 4 [7, 11, 13, 14] = 0 := by decide +kernel
  have e4 : (votesL [1, 1, 1] 2 == [3, 5, 6]) = true := by decide +kernel
  have e5 : isF 3 [3, 5, 6] = true := by decide +kernel
  have e6 : isF 4 [7, 11, 13, 14] = false := by decide +kernel
  have e7 : decide (someN 4 [7, 11, 13, 14] = 3) = true := by decide +kernel
  simp only [l1, l2, l3, e1, e2, e3, e4, e5, e6, e7]
  exact ⟨trivial, trivial, trivial, fun _ => ⟨fun _ => ⟨fun _ => ⟨trivial, fun _ => ⟨fun _ => ⟨fun _ => hk, fun h => by cases h⟩, fun h => by cases h⟩, fun h => by cases h⟩, fun h => by cases h⟩, fun h => by cases h⟩, fun h => by cases h⟩

theorem qf_vc (n : Int) (l o : List Int) (k : List Dat → Prop) (hll : l.length ≤ maxLen) (hol : o.length ≤ maxLen) (hk : k [⟨.bool, true⟩]) :
    vcF ⟨Et, [(12, cFact), (18, cFull), (19, cHas), (20, cCheck), (14, cPow2), (15, cBoth)], glT, [], []⟩ (anQF n l o) (Tryd.f4.body.getD .skip) Tryd.f4.ntmps [(.tmp 6, .bool)] [⟨I, n⟩, ⟨.sl I, l⟩, ⟨.sl I, o⟩] k := by
  rw [vcQF]
  have hml : maxLen ≤ 9223372036854775807 := by decide
  refine ⟨trivial, (fun h => by cases h), fun _ => ⟨trivial, fun hc => ?_, fun hc => ?_⟩⟩
  · have hc : chkS n l ≠ 0 := by simpa using hc
    have e : fullO n l = some 0 := by unfold fullO; rw [if_neg hc]
    have e1 : isF n l = false := by unfold isF; rw [e]; rfl
    have e2 : someN n l = 0 := by unfold someN; rw [e]; rfl
    rw [e1, e2]
    exact ⟨fun _ => hk, fun h => by cases h⟩
  · have hc : chkS n l = 0 := by simpa using hc
    have g := sets_of hc
    have hn := g.rng
    have small : ∀ x : Nat, x < 2 ^ n.toNat → x < 256 := fun x hx => Nat.lt_of_lt_of_le hx (pow8 hn.2)
    refine ⟨fun hf => ?_, fun hf => ?_⟩
    · have hf : isF n l = false := by simpa using hf
      obtain ⟨x, hx, hxl, hne⟩ := notfull hc hf
      have hpc := powC n.toNat
      have hmask : maskB (x : Int) n = true := mask_mk (by omega) (by rw [hpc]; omega)
      have hE : hasE n l (x : Int) = 0 := by unfold hasE; rw [if_pos hc, if_pos hmask]
      have hno : hasB l (x : Int) = false := by
        unfold neither at hne
        rw [Bool.and_eq_true, Bool.not_eq_true'] at hne
        exact hne.1
      rw [hx]
      simp only [hE, hno, hc, hf, decide_eq_true_eq, decide_eq_false_iff_not, and_true, true_and, if_true, Int.toNat_natCast]
      refine ⟨fun h => absurd h (by omega), fun _ => ⟨by omega, fun h => absurd h (by rw [hpc]; omega), fun _ => ⟨⟨0, by omega, rfl⟩, fun y hy => ⟨fun hlt => ?_, fun _ => ⟨fun _ => hk, fun h => absurd trivial h⟩⟩⟩⟩⟩
      have hyl : y < l.length := by omega
      have hm := getD_mem hyl
      have hmm := g.mem _ hm
      obtain ⟨s, hs⟩ := Int.eq_ofNat_of_zero_le (show 0 ≤ l.getD y 0 by omega)
      rw [hs] at hm hmm ⊢
      have h1 := meets_some g hne hm
      have h2 := small s (by rw [hpc] at hmm; omega)
      refine ⟨by omega, hlt, by omega, fun h => absurd h ?_, fun _ => ⟨inK_i64.2 (by omega), y + 1, by omega, by omega, by omega⟩⟩
      rw [Int.toNat_natCast]
      omega
    · have hf : isF n l = true := by simpa using hf
      simp only [hc, hf, decide_eq_true_eq, decide_eq_false_iff_not, and_true, true_and, Bool.not_eq_true', Bool.not_eq_false', Int.toNat_natCast]
      refine ⟨fun _ => hk, fun ho => ?_⟩
      have go := sets_of ho
      simp only [ho, true_and]
      have hasE0 : ∀ (a b : List Int), Sets n a → chkS n b = 0 → ∀ j, j < a.length → hasE n b (a.getD j 0) = 0 := by
        intro a b ga hb j hj
        have hm := ga.mem _ (getD_mem hj)
        unfold hasE
        rw [if_pos hb, if_pos (mask_mk (by omega) hm.2)]
      refine ⟨⟨0, ⟨by omega, fun j hj => by omega⟩, by omega⟩, fun x ⟨hx, hall⟩ => ⟨fun hlt => ?_, fun hge => ?_⟩⟩
      · have hE := hasE0 l o g ho x (by omega)
        rw [hE]
        refine ⟨by omega, hlt, fun h => absurd rfl h, fun _ => ⟨fun _ => hk, fun hb => ⟨inK_i64.2 (by omega), x + 1, ⟨by omega, fun j hj => ?_⟩, by omega, by omega⟩⟩⟩
        rcases Nat.lt_or_ge j x with h1 | h1
        · exact hall j h1
        · have : j = x := by omega
          subst this
          rw [if_pos rfl] at hb; exact hb
      · have hall' : ∀ j, j < l.length → hasB o (l.getD j 0) = true := fun j hj => hall j (by omega)
        refine ⟨⟨0, ⟨by omega, hall'⟩, by omega⟩, fun y ⟨hy, _⟩ => ⟨fun hlt => ?_, fun _ => hk⟩⟩
        have hE := hasE0 o l go hc y (by omega)
        rw [hE]
        have hm := getD_mem (l := o) (i := y) (by omega)
        have hmm := go.mem _ hm
        obtain ⟨s, hs⟩ := Int.eq_ofNat_of_zero_le (show 0 ≤ o.getD y 0 by omega)
        have hB : hasB l (o.getD y 0) = true := by
          rw [hs] at hm ⊢
          exact full_other g go hc hf hall' hm
        rw [hB]
        exact ⟨by omega, hlt, fun h => absurd rfl h, fun _ => ⟨(fun h => by cases h), fun _ => ⟨inK_i64.2 (by omega), y + 1, ⟨by omega, hall'⟩, by omega, by omega⟩⟩⟩

theorem okQF : PlainOk Tryd.prog glT 4 cLawF := by
  refine plain_of (CxOk.mk' Et_ok rfl mixed (gl := glT) (GOk.cons okFact Tryd.func12 (by kernel_rfl) (by kernel_rfl) (GOk.cons okFull Tryd.func18 (by kernel_rfl) (by kernel_rfl) (GOk.cons okHas Tryd.func19 (by kernel_rfl) (by kernel_rfl) (GOk.cons okCheck Tryd.func20 (by kernel_rfl) (by kernel_rfl) (GOk.cons okPow2 Tryd.func14 (by kernel_rfl) (by kernel_rfl) (GOk.cons okBoth Tryd.func15 (by kernel_rfl) (by kernel_rfl) GOk.nil)))))) GoOk.nil noIt) Tryd.func4 (c := Tryd.f4.body.getD .skip) (rvs := [(.tmp 6, .bool)]) (by kernel_rfl) (by kernel_rfl) (by kernel_rfl) ?_
  intro ds k ⟨hp, hk⟩ hwf
  obtain ⟨n, l, o, rfl, -⟩ := dest3 hp
  exact ⟨anQF n l o, qf_vc n l o k (wf3 hwf).2.1.1 (wf3 hwf).2.2.1 hk⟩

theorem ql_vc (n : Int) (l : List Int) (v : Int) (k : List Dat → Prop) (hk : k [⟨.bool, true⟩]) :
    vcF ⟨Et, [(12, cFact), (21, cLeast), (19, cHas), (20, cCheck), (16, cSub)], glT, [], []⟩ (anQL n l) (Tryd.f5.body.getD .skip) Tryd.f5.ntmps [(.tmp 6, .bool)] [⟨I, n⟩, ⟨.sl I, l⟩, ⟨I, v⟩] k := by
  rw [vcQL]
  refine ⟨trivial, (fun h => by cases h), fun _ => ⟨trivial, fun hc => ?_, fun hc => ?_⟩⟩
  · have hc : chkS n l ≠ 0 := by simpa using hc
    rw [if_neg hc]
    exact hk
  · have hc : chkS n l = 0 := by simpa using hc
    have g := sets_of hc
    obtain ⟨gL, hlen⟩ := least_sets g
    have hn := g.len
    have hif : (if chkS n l = 0 then leastU l (2 ^ n.toNat) else []) = leastL n l := if_pos hc
    have hcL := chk_mk gL
    simp only [hif]
    have hEE : hasE n (leastL n l) v = hasE n l v := by unfold hasE; rw [hc, hcL]
    have hBB : (if hasE n l v = 0 then hasB l v else false) = if hasE n l v = 0 then hasB (leastL n l) v else false := by
      by_cases h0 : hasE n l v = 0
      · rw [if_pos h0, if_pos h0]
        have hm : maskB v n = true := by
          unfold hasE at h0
          rw [if_pos hc] at h0
          split at h0
          · rename_i h; exact h
          · exact absurd h0 (by decide)
        obtain ⟨m, rfl⟩ := Int.eq_ofNat_of_zero_le (mask_of hm).1
        exact least_has g m
      · rw [if_neg h0, if_neg h0]
    rw [hEE, hBB]
    simp only [hc, hcL, decide_eq_true_eq, decide_eq_false_iff_not, and_true, true_and, Int.toNat_natCast, beq_self_eq_true, Bool.true_and, Bool.and_true]
    refine ⟨(fun h => by simp at h), fun _ => ⟨fun h => absurd h (by omega), fun _ => ⟨⟨0, by omega, by omega⟩, fun x hx => ⟨fun hlt => ⟨⟨0, by omega, by omega⟩, fun y hy => ⟨fun hlt2 => ⟨⟨fun _ => ⟨by omega, hlt, by omega, hlt2⟩, fun _ => trivial⟩, fun h => ?_, fun _ => ⟨inK_i64.2 (by omega), y + 1, by omega, by omega, by omega⟩⟩, fun _ => ⟨inK_i64.2 (by omega), x + 1, by omega, by omega, by omega⟩⟩⟩, fun hge => ?_⟩⟩⟩⟩
    · have hxy : x ≠ y := by
        intro e
        subst e
        simp at h
      have := least_apart g (i := x) (j := y) (by omega) (by omega) hxy
      rw [this] at h
      simp at h
    · exact ⟨⟨fun _ => trivial, fun _ => trivial⟩, hk⟩

theorem okQL : PlainOk Tryd.prog glT 5 cLawL := by
  refine plain_of (CxOk.mk' Et_ok rfl mixed (gl := glT) (GOk.cons okFact Tryd.func12 (by kernel_rfl) (by kernel_rfl) (GOk.cons okLeast Tryd.func21 (by kernel_rfl) (by kernel_rfl) (GOk.cons okHas Tryd.func19 (by kernel_rfl) (by kernel_rfl) (GOk.cons okCheck Tryd.func20 (by kernel_rfl) (by kernel_rfl) (GOk.cons okSub Tryd.func16 (by kernel_rfl) (by kernel_rfl) GOk.nil))))) GoOk.nil noIt) Tryd.func5 (c := Tryd.f5.body.getD .skip) (rvs := [(.tmp 6, .bool)]) (by kernel_rfl) (by kernel_rfl) (by kernel_rfl) ?_
  intro ds k ⟨hp, hk⟩ hwf
  obtain ⟨n, l, v, rfl, -⟩ := dest3 hp
  exact ⟨anQL n l, ql_vc n l v k hk⟩
end Go.Proofs.YtlopkkoenfngiaaDoor

/- Quorums: weights of sets. -/
namespace Go.Proofs.YtlopkkoenfngiaaDoor
open Go.Vc

/-- the weights of a set over the first k nodes -/
def SS (w : List Int) (a : Nat) (k : Nat) : Int := ((List.range k).map fun i => if a.testBit i = true then w.getD i 0 else 0).sum
theorem SS_succ (w : List Int) (a k : Nat) : SS w a (k + 1) = SS w a k + (if a.testBit k = true then w.getD k 0 else 0) := by
  unfold SS
  rw [List.range_succ, List.map_append, List.sum_append]; simp
theorem filter_sum (f : Nat → Int) (p : Nat → Bool) : ∀ l : List Nat, ((l.filter p).map f).sum = (l.map fun i => if p i = true then f i else 0).sum := by
  intro l
  induction l with
  | nil => rfl
  | cons a r ih =>
    rw [List.filter_cons, List.map_cons, List.sum_cons, ← ih]
    cases h : p a <;> simp
theorem sumW_nat (w : List Int) {a : Nat} (ha : a < 2 ^ 64) : sumW w (a : Int) = SS w a 64 := by
  unfold sumW sumL bitsOf bitsN SS
  have e : ((a : Int) % 18446744073709551616).toNat = a := by
    have : a < 18446744073709551616 := ha
    omega
  rw [e, List.map_map, filter_sum, List.range_eq_range']
  rfl
theorem SS_mono {w : List Int} (hw : wOk w) {a b : Nat} (h : sub a b) : ∀ k, SS w a k ≤ SS w b k := by
  intro k
  induction k with
  | zero => exact Int.le_refl _
  | succ k ih =>
    rw [SS_succ, SS_succ]
    have := w_at hw k
    cases ha : a.testBit k with
    | true => rw [h k ha]; simp only [if_true]; omega
    | false => simp only [Bool.false_eq_true, if_false]; split <;> omega
theorem sum_take (w : List Int) : ∀ k, ((List.range k).map fun i => w.getD i 0).sum = (w.take k).sum := by
  intro k
  induction k with
  | zero => rfl
  | succ k ih =>
    rw [List.range_succ, List.map_append, List.sum_append, ih]
    rcases Nat.lt_or_ge k w.length with h | h
    · rw [sum_snoc h]; simp
    · rw [List.take_of_length_le (by omega), List.take_of_length_le (show w.length ≤ k + 1 by omega)]
      simp [List.getElem?_eq_none h]
theorem SS_disj {w : List Int} (hw : wOk w) {a b : Nat} (h : ∀ i, ¬ (a.testBit i = true ∧ b.testBit i = true)) : ∀ k, SS w a k + SS w b k ≤ ((List.range k).map fun i => w.getD i 0).sum := by
  intro k
  induction k with
  | zero => exact Int.le_refl _
  | succ k ih =>
    rw [SS_succ, SS_succ, List.range_succ, List.map_append, List.sum_append]
    have h1 := w_at hw k
    have h2 := h k
    have e : ((([k] : List Nat).map fun i => w.getD i 0)).sum = w.getD k 0 := by simp
    rw [e]
    cases ha : a.testBit k with
    | true =>
      have hb : b.testBit k = false := by
        cases hb : b.testBit k with
        | false => rfl
        | true => exact absurd ⟨ha, hb⟩ h2
      rw [hb]; simp only [if_true, Bool.false_eq_true, if_false]; omega
    | false => simp only [Bool.false_eq_true, if_false]; split <;> omega
theorem SS_full {w : List Int} {n : Nat} (hn : w.length ≤ n) : ∀ k, SS w (2 ^ n - 1) k = ((List.range k).map fun i => w.getD i 0).sum := by
  intro k
  induction k with
  | zero => rfl
  | succ k ih =>
    rw [SS_succ, ih, List.range_succ, List.map_append, List.sum_append, Nat.testBit_two_pow_sub_one]
    by_cases h : k < n
    · simp [h]
    · simp [h, List.getElem?_eq_none (show w.length ≤ k by omega)]

/-- a set without one of its own -/
def lessN (b k : Nat) : Nat := b ^^^ (b &&& 2 ^ k)
theorem lessN_bit (b k i : Nat) : (lessN b k).testBit i = (b.testBit i && !decide (k = i)) := by
  unfold lessN
  rw [Nat.testBit_xor, Nat.testBit_and, Nat.testBit_two_pow]
  cases b.testBit i <;> cases decide (k = i) <;> rfl
theorem lessI_nat (b k : Nat) : lessI (b : Int) (k : Int) = (lessN b k : Int) := by
  unfold lessI lessN
  rw [Int.toNat_natCast, Int.toNat_natCast, Int.one_mul, powC, Int.toNat_natCast]
theorem lessN_lt {b n k : Nat} (h : b < 2 ^ n) : lessN b k < 2 ^ n := Nat.xor_lt_two_pow h (Nat.lt_of_le_of_lt Nat.and_le_left h)

/-- what the list of votes has -/
theorem votes_ok {w : List Int} {need : Int} (h : votesE w need = 0) : wOk w ∧ 0 < w.length ∧ 1 ≤ need ∧ need ≤ w.sum ∧ w.sum < 2 * need := by
  unfold votesE at h
  split at h
  · exact absurd h (by decide)
  rename_i h1
  split at h
  · exact absurd h (by decide)
  rename_i h2
  split at h
  · exact absurd h (by decide)
  rename_i h3
  split at h
  · exact absurd h (by decide)
  rename_i h4
  split at h
  · exact absurd h (by decide)
  rename_i h5
  have ha : w.all (fun x => inB x 0 20) = true := by simpa using h3
  have hb : inB need 1 w.sum = true := by simpa using h4
  have hb := inB_of hb
  exact ⟨⟨by omega, fun x hx => inB_of (List.all_eq_true.1 ha x hx)⟩, by omega, hb.1, hb.2, by omega⟩

theorem low_iff {w : List Int} (hw : wOk w) (need : Int) {s : Nat} (hs : s < 2 ^ w.length) : lowB w need (s : Int) = true ↔ need ≤ SS w s 64 ∧ ∀ i, s.testBit i = true → SS w (lessN s i) 64 < need := by
  have h64 : 2 ^ w.length ≤ 2 ^ 64 := Nat.pow_le_pow_right (by decide) (by have := hw.1; omega)
  have hs64 : s < 2 ^ 64 := Nat.lt_of_lt_of_le hs h64
  unfold lowB lowL
  rw [Bool.and_eq_true, decide_eq_true_eq, List.all_eq_true, sumW_nat w hs64]
  constructor
  · rintro ⟨h1, h2⟩
    refine ⟨h1, fun i hi => ?_⟩
    have := of_decide_eq_true (h2 (i : Int) ((bitsOf_mem hs64 _).2 ⟨i, rfl, hi⟩))
    rwa [lessI_nat, sumW_nat w (Nat.lt_of_lt_of_le (lessN_lt hs) h64)] at this
  · rintro ⟨h1, h2⟩
    refine ⟨h1, fun y hy => ?_⟩
    obtain ⟨i, rfl, hi⟩ := (bitsOf_mem hs64 y).1 hy
    rw [lessI_nat, sumW_nat w (Nat.lt_of_lt_of_le (lessN_lt hs) h64)]
    exact decide_eq_true (h2 i hi)

theorem votes_mem {w : List Int} {need : Int} (h : votesE w need = 0) {s : Int} : s ∈ votesL w need ↔ ∃ x : Nat, x < 2 ^ w.length ∧ s = (x : Int) ∧ lowB w need (x : Int) = true := by
  unfold votesL votesU
  rw [if_pos h, List.mem_filter, List.mem_map]
  constructor
  · rintro ⟨⟨x, hx, rfl⟩, h⟩
    exact ⟨x, List.mem_range.1 hx, rfl, h⟩
  · rintro ⟨x, hx, rfl, h⟩
    exact ⟨⟨x, List.mem_range.2 hx, rfl⟩, h⟩
theorem votes_nodup {w : List Int} {need : Int} (h : votesE w need = 0) : (votesL w need).Nodup := by
  unfold votesL votesU
  rw [if_pos h]
  exact range_nodup _ _

/-- below whatever is heavy enough there is a least one -/
theorem votes_below {w : List Int} {need : Int} (h : votesE w need = 0) {y : Nat} (hy : y < 2 ^ w.length) (hs : need ≤ SS w y 64) : ∃ x : Nat, (x : Int) ∈ votesL w need ∧ sub x y := by
  obtain ⟨hw, -⟩ := votes_ok h
  obtain ⟨x, ⟨hx, hxs⟩, hmin⟩ := exists_least (p := fun x => sub x y ∧ need ≤ SS w x 64) ⟨y, fun _ h => h, hs⟩
  have hxl : x < 2 ^ w.length := Nat.lt_of_le_of_lt (sub_le hx) hy
  refine ⟨x, (votes_mem h).2 ⟨x, hxl, rfl, (low_iff hw need hxl).2 ⟨hxs, fun i hi => ?_⟩⟩, hx⟩
  refine Int.not_le.1 fun hge => ?_
  have hsub : sub (lessN x i) x := fun j hj => by
    rw [lessN_bit, Bool.and_eq_true] at hj
    exact hj.1
  have h1 := hmin (lessN x i) ⟨sub_trans hsub hx, hge⟩
  have h2 := sub_le hsub
  have : lessN x i = x := by omega
  have h3 := lessN_bit x i i
  rw [this, hi] at h3
  simp at h3

theorem sum64 {w : List Int} (hw : wOk w) : ((List.range 64).map fun i => w.getD i 0).sum = w.sum := by
  rw [sum_take, List.take_of_length_le (by have := hw.1; omega)]

theorem votes_some {w : List Int} {need : Int} (h : votesE w need = 0) : 0 < (votesL w need).length := by
  obtain ⟨hw, h0, h1, h2, h3⟩ := votes_ok h
  have hp := Nat.two_pow_pos w.length
  obtain ⟨x, hx, _⟩ := votes_below h (y := 2 ^ w.length - 1) (by omega) (by rw [SS_full (Nat.le_refl _), sum64 hw]; exact h2)
  exact List.length_pos_of_mem hx

/-- any two of them -/
theorem votes_two {w : List Int} {need : Int} (h : votesE w need = 0) {a b : Nat} (ha : (a : Int) ∈ votesL w need) (hb : (b : Int) ∈ votesL w need) : a &&& b ≠ 0 ∧ (a ≠ b → ¬ sub a b) := by
  obtain ⟨hw, h0, h1, h2, h3⟩ := votes_ok h
  obtain ⟨a', hal, e1, hla⟩ := (votes_mem h).1 ha
  obtain ⟨b', hbl, e2, hlb⟩ := (votes_mem h).1 hb
  have e1 : a = a' := by omega
  have e2 : b = b' := by omega
  subst e1; subst e2
  have la := (low_iff hw need hal).1 hla
  have lb := (low_iff hw need hbl).1 hlb
  refine ⟨?_, fun hne hsub => ?_⟩
  · rw [meet_iff]
    refine Classical.byContradiction fun hc => ?_
    have := SS_disj hw (a := a) (b := b) (fun i hi => hc ⟨i, hi⟩) 64
    rw [sum64 hw] at this
    have := la.1
    have := lb.1
    omega
  · have hex : ∃ k, b.testBit k = true ∧ a.testBit k = false := by
      refine Classical.byContradiction fun hc => hne ?_
      apply Nat.eq_of_testBit_eq
      intro i
      cases ha : a.testBit i with
      | true => exact (hsub i ha).symm
      | false =>
        cases hb : b.testBit i with
        | false => rfl
        | true => exact absurd ⟨i, hb, ha⟩ hc
    obtain ⟨k, hk1, hk2⟩ := hex
    have h4 := lb.2 k hk1
    have h5 := SS_mono hw (a := a) (b := lessN b k) (fun i hi => by
      rw [lessN_bit, hsub i hi]
      have : k ≠ i := fun e => by subst e; rw [hk2] at hi; cases hi
      simp [this]) 64
    have := la.1
    omega
theorem votes_pos {w : List Int} {need : Int} (h : votesE w need = 0) {s : Int} (hs : s ∈ votesL w need) : ∃ a : Nat, s = (a : Int) ∧ 0 < a ∧ a < 2 ^ w.length := by
  obtain ⟨hw, h0, h1, h2, h3⟩ := votes_ok h
  obtain ⟨a, hal, rfl, hla⟩ := (votes_mem h).1 hs
  refine ⟨a, rfl, ?_, hal⟩
  have la := ((low_iff hw need hal).1 hla).1
  rcases Nat.eq_zero_or_pos a with e | e
  · subst e
    have hz : ∀ k, SS w 0 k = 0 := by
      intro k
      induction k with
      | zero => rfl
      | succ k ih => rw [SS_succ, ih]; simp
    rw [hz] at la
    omega
  · exact e
/-- where one vote more is needed -/
theorem votes_more {w : List Int} {need : Int} (h : votesE w need = 0) (h' : votesE w (need + 1) = 0) {m : Int} (hm : m ∈ votesL w (need + 1)) : someB (votesL w need) m (votesL w need).length = true := by
  obtain ⟨hw, -⟩ := votes_ok h
  obtain ⟨a, rfl, ha0, hal⟩ := votes_pos h' hm
  obtain ⟨a', _, e, hla⟩ := (votes_mem h').1 hm
  have e : a = a' := by omega
  subst e
  have la := ((low_iff hw (need + 1) hal).1 hla).1
  obtain ⟨x, hx, hsub⟩ := votes_below h hal (by omega)
  obtain ⟨j, hj, he⟩ := List.getElem_of_mem hx
  unfold someB
  refine List.any_eq_true.2 ⟨j, List.mem_range.2 hj, ?_⟩
  rw [getD_at hj, he, decide_eq_true (show (0 : Int) < (a : Int) by omega), Bool.true_and]
  exact (subB_iff x a).2 hsub
theorem someB_succ (l : List Int) (m : Int) (k : Nat) : someB l m (k + 1) = (someB l m k || decide (0 < m) && subB (l.getD k 0) m) := by
  unfold someB
  rw [List.range_succ, List.any_append]; simp
theorem votes_need {w : List Int} {need : Int} (h : votesE w need = 0) (h' : votesE w (need + 1) ≠ 0) : w.sum ≤ need := by
  obtain ⟨hw, h0, h1, h2, h3⟩ := votes_ok h
  refine Int.not_lt.1 fun hlt => h' ?_
  have hall : w.all (fun x => inB x 0 20) = true := List.all_eq_true.2 fun x hx => by
    have := hw.2 x hx
    unfold inB; simp; omega
  have hb : inB (need + 1) 1 w.sum = true := by unfold inB; simp; omega
  unfold votesE
  rw [if_neg (by omega), if_neg (by have := hw.1; omega), if_neg (by rw [hall]; decide), if_neg (by rw [hb]; decide), if_neg (by omega)]
end Go.Proofs.YtlopkkoenfngiaaDoor

/- Quorums: the law of votes. -/
namespace Go.Proofs.YtlopkkoenfngiaaDoor
open Go.Vc

theorem qv_vc (w : List Int) (need : Int) (k : List Dat → Prop) (hk : k [⟨.bool, true⟩]) :
    vcF ⟨Et, [(12, cFact), (13, cVotes), (14, cPow2), (15, cBoth), (16, cSub), (17, cSumL)], glT, [], []⟩ (anQV w need) (Tryd.f3.body.getD .skip) Tryd.f3.ntmps [(.tmp 4, .bool)] [⟨.sl I, w⟩, ⟨I, need⟩] k := by
  rw [vcQV]
  refine ⟨trivial, (fun h => by cases h), fun _ => ⟨trivial, fun hc => ?_, fun hc => ?_⟩⟩
  · have hc : votesE w need ≠ 0 := by simpa using hc
    have e : votesL w need = [] := by unfold votesL; rw [if_neg hc]
    rw [e]
    exact hk
  · have hc : votesE w need = 0 := by simpa using hc
    obtain ⟨hw, h0, h1, h2, h3⟩ := votes_ok hc
    have hpc := powC w.length
    have hpw : 2 ^ w.length ≤ 256 := Nat.pow_le_pow_right (n := 2) (by decide) hw.1
    have hsum := sum_bd hw.2
    have hwl := hw.1
    have hlen : (votesL w need).length ≤ 256 := by
      unfold votesL
      rw [if_pos hc]
      exact Nat.le_trans (votesU_len _ _ _) hpw
    have hlen2 : (votesL w (need + 1)).length ≤ 256 := by
      unfold votesL
      split
      · exact Nat.le_trans (votesU_len _ _ _) hpw
      · exact Nat.zero_le _
    have hnd := votes_nodup hc
    have hpos := votes_some hc
    simp only [hc, decide_eq_true_eq, decide_eq_false_iff_not, and_true, true_and, Int.toNat_natCast, Bool.not_eq_true', Bool.not_eq_false', Bool.or_eq_true, Bool.or_eq_false_iff]
    refine ⟨⟨0, by omega, by omega⟩, fun x hx => ⟨fun hlt => ?_, fun hge => ?_⟩⟩
    · have hxl : x < (votesL w need).length := by omega
      have hm := getD_mem hxl
      obtain ⟨a, ha, ha0, hal⟩ := votes_pos hc hm
      rw [ha] at hm ⊢
      refine ⟨⟨by omega, hlt, fun _ => trivial, fun _ => ⟨by omega, hlt, by omega⟩⟩, fun h => ?_, fun _ => ⟨⟨0, by omega, by omega⟩, fun y hy => ⟨fun hlt2 => ?_, fun _ => ⟨inK_i64.2 (by omega), x + 1, by omega, by omega, by omega⟩⟩⟩⟩
      · rcases h with h | h
        · omega
        · rw [hpc] at h; omega
      · have hyl : y < (votesL w need).length := by omega
        have hm2 := getD_mem hyl
        obtain ⟨b, hb, hb0, hbl⟩ := votes_pos hc hm2
        have hne := getD_inj hnd hxl hyl (by omega)
        rw [ha, hb] at hne
        rw [hb] at hm2 ⊢
        have hab := votes_two hc hm hm2
        have hba := votes_two hc hm2 hm
        have s1 : subB (a : Int) (b : Int) = false := by
          cases h : subB (a : Int) (b : Int) with
          | false => rfl
          | true => exact absurd ((subB_iff a b).1 h) (hab.2 (by omega))
        have s2 : subB (b : Int) (a : Int) = false := by
          cases h : subB (b : Int) (a : Int) with
          | false => rfl
          | true => exact absurd ((subB_iff b a).1 h) (hba.2 (by omega))
        have s3 : ¬ ((a &&& b : Nat) : Int) = 0 := by have := hab.1; omega
        simp only [s1, s2, s3, Int.toNat_natCast, false_or, or_self, and_self, not_false_eq_true, false_and, true_and, Bool.false_eq_true]
        refine ⟨⟨by omega, hlt, by omega, by omega, by omega, (fun h => h.elim), fun _ => ⟨by omega, hlt, by omega, by omega, (fun h => h.elim), fun _ => ⟨by omega, by omega, by omega, hlt⟩⟩⟩, (fun h => h.elim), fun _ => ⟨inK_i64.2 (by omega), y + 1, by omega, by omega, by omega⟩⟩
    · refine ⟨fun h => absurd h (by omega), fun _ => ⟨inK_i64.2 (by omega), fun hE => ⟨⟨hw.2, hw.1⟩, ?_⟩, fun hE => ?_⟩⟩
      · have := votes_need hc hE
        rw [decide_eq_true this]; exact hk
      · simp only [hE, and_true]
        refine ⟨⟨0, by omega, by omega⟩, fun x hx => ⟨fun hlt => ⟨⟨0, by omega, rfl, by omega⟩, fun y hy => ⟨fun hlt2 => ?_, fun hge2 => ?_⟩⟩, fun _ => hk⟩⟩
        · refine ⟨⟨fun _ => trivial, fun _ => ⟨by omega, hlt, fun _ => ⟨by omega, hlt2, by omega, hlt⟩, fun _ => trivial⟩⟩, inK_i64.2 (by omega), y + 1, by omega, by omega, (someB_succ _ _ _).symm, by omega⟩
        · have hy2 : y = (votesL w need).length := by omega
          have hm := getD_mem (l := votesL w (need + 1)) (i := x) (by omega)
          have := votes_more hc hE hm
          rw [hy2, this]
          exact ⟨(fun h => by cases h), fun _ => ⟨inK_i64.2 (by omega), x + 1, by omega, by omega, by omega⟩⟩

theorem okQV : PlainOk Tryd.prog glT 3 cLawV := by
  refine plain_of (CxOk.mk' Et_ok rfl mixed (gl := glT) (GOk.cons okFact Tryd.func12 (by kernel_rfl) (by kernel_rfl) (GOk.cons okVotes Tryd.func13 (by kernel_rfl) (by kernel_rfl) (GOk.cons okPow2 Tryd.func14 (by kernel_rfl) (by kernel_rfl) (GOk.cons okBoth Tryd.func15 (by kernel_rfl) (by kernel_rfl) (GOk.cons okSub Tryd.func16 (by kernel_rfl) (by kernel_rfl) (GOk.cons okSumL Tryd.func17 (by kernel_rfl) (by kernel_rfl) GOk.nil)))))) GoOk.nil noIt) Tryd.func3 (c := Tryd.f3.body.getD .skip) (rvs := [(.tmp 4, .bool)]) (by kernel_rfl) (by kernel_rfl) (by kernel_rfl) ?_
  intro ds k ⟨hp, hk⟩ hwf
  obtain ⟨w, need, rfl, -⟩ := dest2 hp
  exact ⟨anQV w need, qv_vc w need k hk⟩
end Go.Proofs.YtlopkkoenfngiaaDoor

/- Quorums: how many two have in common; how many may fail. -/
namespace Go.Proofs.YtlopkkoenfngiaaDoor
open Go.Vc

theorem popN_pos : ∀ n : Fin 256, n.val ≠ 0 → 0 < popN n.val := by decide +kernel
theorem popN_full : ∀ n : Fin 9, popN (2 ^ n.val - 1) = n.val := by decide +kernel
theorem popN_le : ∀ n : Fin 9, ∀ x : Fin 256, x.val < 2 ^ n.val → popN x.val ≤ n.val := by decide +kernel
theorem compl_sub : ∀ n : Fin 9, ∀ v : Fin 256, v.val < 2 ^ n.val → (2 ^ n.val - 1) ^^^ ((2 ^ n.val - 1) &&& v.val) = 2 ^ n.val - 1 - v.val := by decide +kernel

theorem popI_comm (a b : Int) : popI a b = popI b a := by unfold popI; rw [Nat.and_comm]

theorem mem_pop {n : Int} {l : List Int} (g : Sets n l) {a b : Nat} (ha : a < l.length) (hb : b < l.length) : 1 ≤ popI (l.getD a 0) (l.getD b 0) ∧ popI (l.getD a 0) (l.getD b 0) ≤ n := by
  have h1 := g.mem _ (getD_mem ha)
  have h2 := g.mem _ (getD_mem hb)
  have hm := g.meet _ (getD_mem ha) _ (getD_mem hb)
  have hn := g.rng
  rw [powC] at h1 h2
  have hlt : (l.getD a 0).toNat &&& (l.getD b 0).toNat < 2 ^ n.toNat := Nat.lt_of_le_of_lt Nat.and_le_left (by omega)
  have h256 : (l.getD a 0).toNat &&& (l.getD b 0).toNat < 256 := Nat.lt_of_lt_of_le hlt (pow8 hn.2)
  have p1 := popN_pos ⟨_, h256⟩ hm
  have p2 := popN_le ⟨n.toNat, by omega⟩ ⟨_, h256⟩ hlt
  simp only at p1 p2
  unfold popI
  omega

/-- what is behind the two loops -/
theorem mp_end {n : Int} {l : List Int} (g : Sets n l) {m : Int} (h : MP n l l.length 0 m) : (∀ a b, a < l.length → b < l.length → m ≤ popI (l.getD a 0) (l.getD b 0)) ∧ 1 ≤ m ∧ ∃ a b, a < l.length ∧ b < l.length ∧ m = popI (l.getD a 0) (l.getD b 0) := by
  obtain ⟨h1, h2, h3⟩ := h
  have hall : ∀ a b, a < l.length → b < l.length → m ≤ popI (l.getD a 0) (l.getD b 0) := by
    intro a b ha hb
    rcases Nat.le_total b a with hab | hab
    · exact h2 a b (.inl ⟨ha, hab⟩)
    · rw [popI_comm]; exact h2 b a (.inl ⟨hb, hab⟩)
  have hex : ∃ a b, a < l.length ∧ b < l.length ∧ m = popI (l.getD a 0) (l.getD b 0) := by
    rcases h3 with h3 | h3
    · have h0 := g.len.1
      have hp := mem_pop g h0 h0
      exact ⟨0, 0, h0, h0, by have := hall 0 0 h0 h0; omega⟩
    · exact h3
  refine ⟨hall, ?_, hex⟩
  obtain ⟨a, b, ha, hb, he⟩ := hex
  have := (mem_pop g ha hb).1
  omega

theorem has_full {n : Int} {l : List Int} (g : Sets n l) : hasB l (complN n 0) = true := by
  have e : complN n 0 = ((2 ^ n.toNat - 1 : Nat) : Int) := by
    have := compl_nat n 0
    rw [Nat.and_zero, Nat.xor_zero] at this
    exact this
  rw [e, has_iff g]
  have h0 := getD_mem (l := l) (i := 0) g.len.1
  have hm := g.mem _ h0
  obtain ⟨s, hs⟩ := Int.eq_ofNat_of_zero_le (show 0 ≤ l.getD 0 0 by omega)
  rw [hs] at h0
  refine ⟨s, h0, fun i hi => ?_⟩
  rw [Nat.testBit_two_pow_sub_one]
  exact decide_eq_true (bit_lt (memN g h0).2 hi)
theorem has_none {n : Int} {l : List Int} (g : Sets n l) : hasB l (complN n ((2 ^ n.toNat - 1 : Nat) : Int)) = false := by
  rw [compl_nat, Nat.and_self, Nat.xor_self]
  cases h : hasB l ((0 : Nat) : Int) with
  | false => rfl
  | true =>
    obtain ⟨s, hs, hsub⟩ := (has_iff g 0).1 h
    have h1 := memN g hs
    have := sub_le hsub
    omega

theorem fp_end {n : Int} {l : List Int} (g : Sets n l) {f : Int} (h : FP n l (2 ^ n.toNat) f) : 0 ≤ f ∧ f < n := by
  obtain ⟨h1, h2, h3⟩ := h
  have hn := g.rng
  have hp := Nat.two_pow_pos n.toNat
  have hfull := h2 (2 ^ n.toNat - 1) (by omega) (has_none g)
  have hpf := popN_full ⟨n.toNat, by omega⟩
  simp only at hpf
  rw [hpf] at hfull
  refine ⟨?_, by omega⟩
  rcases h3 with h3 | ⟨x, hx, hb, he⟩
  · omega
  · have hx0 : x ≠ 0 := by
      intro e
      subst e
      have := has_full g
      rw [show ((0 : Nat) : Int) = 0 from rfl] at hb
      rw [hb] at this; cases this
    have := popN_pos ⟨x, Nat.lt_of_lt_of_le hx (pow8 hn.2)⟩ hx0
    simp only at this
    omega
end Go.Proofs.YtlopkkoenfngiaaDoor

/- What the functions of this seat have to satisfy, by program: each verification condition in plain words. -/
namespace Go.Proofs.YtlopkkoenfngiaaDoor
open Go.Vc
set_option linter.unusedVariables false
theorem vcManyR (s : Int) (k : List Dat → Prop) : vcF ⟨Et, [], glT, [], []⟩ (anManyR s) (Tryd.f23.body.getD .skip) Tryd.f23.ntmps [(.tmp 2, I)] [⟨I, s⟩] k = (
  (∃ (x : Nat), (x ≤ (8 : Nat) ∧ True) ∧ (s = s.tdiv ((2 : Int) ^ x) ∧ (0 : Int) = (0 : Int) ∧ (0 : Int) = (↑(popK s.toNat x) : Int) ∧ True) ∧ True ∧ tabD = tabD ∧ True) ∧ ∀ (x : Nat), x ≤ (8 : Nat) ∧ True → (decide ((0 : Int) < s.tdiv ((2 : Int) ^ x)) = true → (2 : Int) ≠ (0 : Int) ∧ inK IntKind.i64 ((s.tdiv ((2 : Int) ^ x)).tmod (2 : Int)) ∧ inK IntKind.i64 ((↑(popK s.toNat x) : Int) + (s.tdiv ((2 : Int) ^ x)).tmod (2 : Int)) ∧ (2 : Int) ≠ (0 : Int) ∧ inK IntKind.i64 ((s.tdiv ((2 : Int) ^ x)).tdiv (2 : Int)) ∧ ∃ (x_1 : Nat), (x_1 ≤ (8 : Nat) ∧ True) ∧ (9 : Nat) - x_1 < (9 : Nat) - x ∧ ((s.tdiv ((2 : Int) ^ x)).tdiv (2 : Int) = s.tdiv ((2 : Int) ^ x_1) ∧ (0 : Int) = (0 : Int) ∧ (↑(popK s.toNat x) : Int) + (s.tdiv ((2 : Int) ^ x)).tmod (2 : Int) = (↑(popK s.toNat x_1) : Int) ∧ True) ∧ True ∧ tabD = tabD ∧ True) ∧ (decide ((0 : Int) < s.tdiv ((2 : Int) ^ x)) = false → k [Dat.mk (I) (↑(popK s.toNat x) : Int)])) := by kernel_rfl
theorem vcMasks (n : Int) (l : List Int) (k : List Dat → Prop) : vcF ⟨Et, [(20, cCheck), (42, cHas0), (47, cMany)], glT, [], []⟩ (anMasks n l) (Tryd.f22.body.getD .skip) Tryd.f22.ntmps [(.tmp 4, I), (.tmp 5, I), (.tmp 6, tErr)] [⟨I, n⟩, ⟨.sl I, l⟩] k = (
  True ∧ ((!decide (chkS n l = (0 : Int))) = true → k [Dat.mk (I) (0 : Int), Dat.mk (I) (0 : Int), Dat.mk (Ty.err (58 : Nat)) (chkS n l)]) ∧ ((!decide (chkS n l = (0 : Int))) = false → (∃ (x : Nat × Int), (x.fst ≤ l.length ∧ chkS n l = (0 : Int) ∧ MP n l x.fst (0 : Nat) x.snd) ∧ (n = n ∧ l = l ∧ (0 : Int) = (0 : Int) ∧ (0 : Int) = (0 : Int) ∧ (0 : Int) = (0 : Int) ∧ n = x.snd ∧ l = l ∧ (↑l.length : Int) = (↑l.length : Int) ∧ (0 : Int) = (↑x.fst : Int) ∧ True) ∧ True ∧ tabD = tabD ∧ True) ∧ ∀ (x : Nat × Int), x.fst ≤ l.length ∧ chkS n l = (0 : Int) ∧ MP n l x.fst (0 : Nat) x.snd → (decide ((↑x.fst : Int) < (↑l.length : Int)) = true → (0 : Int) ≤ (↑x.fst : Int) ∧ (↑x.fst : Int) < (↑l.length : Int) ∧ inK IntKind.i64 ((↑x.fst : Int) + (1 : Int)) ∧ (0 : Int) ≤ (0 : Int) ∧ (0 : Int) ≤ (↑x.fst : Int) + (1 : Int) ∧ (↑x.fst : Int) + (1 : Int) ≤ (↑l.length : Int) ∧ (∃ (x_1 : Nat × Int), ((↑x_1.fst : Int) ≤ (↑x.fst : Int) + (1 : Int) ∧ MP n l (↑x.fst : Int).toNat x_1.fst x_1.snd) ∧ (n = n ∧ l = l ∧ (0 : Int) = (0 : Int) ∧ (0 : Int) = (0 : Int) ∧ (0 : Int) = (0 : Int) ∧ x.snd = x_1.snd ∧ l.getD (↑x.fst : Int).toNat (0 : Int) = l.getD (↑x.fst : Int).toNat (0 : Int) ∧ l = l ∧ (↑l.length : Int) = (↑l.length : Int) ∧ (↑x.fst : Int) = (↑x.fst : Int) ∧ List.drop (Int.toNat (0 : Int)) (List.take ((↑x.fst : Int) + (1 : Int)).toNat l) = List.drop (Int.toNat (0 : Int)) (List.take ((↑x.fst : Int) + (1 : Int)).toNat l) ∧ (↑(List.drop (Int.toNat (0 : Int)) (List.take ((↑x.fst : Int) + (1 : Int)).toNat l)).length : Int) = (↑(List.drop (Int.toNat (0 : Int)) (List.take ((↑x.fst : Int) + (1 : Int)).toNat l)).length : Int) ∧ (0 : Int) = (↑x_1.fst : Int) ∧ True) ∧ True ∧ tabD = tabD ∧ True) ∧ ∀ (x_1 : Nat × Int), (↑x_1.fst : Int) ≤ (↑x.fst : Int) + (1 : Int) ∧ MP n l (↑x.fst : Int).toNat x_1.fst x_1.snd → (decide ((↑x_1.fst : Int) < (↑(List.drop (Int.toNat (0 : Int)) (List.take ((↑x.fst : Int) + (1 : Int)).toNat l)).length : Int)) = true → (0 : Int) ≤ (↑x_1.fst : Int) ∧ (↑x_1.fst : Int) < (↑(List.drop (Int.toNat (0 : Int)) (List.take ((↑x.fst : Int) + (1 : Int)).toNat l)).length : Int) ∧ (0 : Int) ≤ l.getD (↑x.fst : Int).toNat (0 : Int) ∧ (0 : Int) ≤ (List.drop (Int.toNat (0 : Int)) (List.take ((↑x.fst : Int) + (1 : Int)).toNat l)).getD (↑x_1.fst : Int).toNat (0 : Int) ∧ ((0 : Int) ≤ (↑((l.getD (↑x.fst : Int).toNat (0 : Int)).toNat &&& ((List.drop (Int.toNat (0 : Int)) (List.take ((↑x.fst : Int) + (1 : Int)).toNat l)).getD (↑x_1.fst : Int).toNat (0 : Int)).toNat) : Int) ∧ (↑((l.getD (↑x.fst : Int).toNat (0 : Int)).toNat &&& ((List.drop (Int.toNat (0 : Int)) (List.take ((↑x.fst : Int) + (1 : Int)).toNat l)).getD (↑x_1.fst : Int).toNat (0 : Int)).toNat) : Int) < (256 : Int)) ∧ inK IntKind.i64 ((↑x_1.fst : Int) + (1 : Int)) ∧ ∃ (x_2 : Nat × Int), ((↑x_2.fst : Int) ≤ (↑x.fst : Int) + (1 : Int) ∧ MP n l (↑x.fst : Int).toNat x_2.fst x_2.snd) ∧ l.length + (1 : Nat) - x_2.fst < l.length + (1 : Nat) - x_1.fst ∧ (n = n ∧ l = l ∧ (0 : Int) = (0 : Int) ∧ (0 : Int) = (0 : Int) ∧ (0 : Int) = (0 : Int) ∧ min x_1.snd (↑(popN (↑((l.getD (↑x.fst : Int).toNat (0 : Int)).toNat &&& ((List.drop (Int.toNat (0 : Int)) (List.take ((↑x.fst : Int) + (1 : Int)).toNat l)).getD (↑x_1.fst : Int).toNat (0 : Int)).toNat) : Int).toNat) : Int) = x_2.snd ∧ l.getD (↑x.fst : Int).toNat (0 : Int) = l.getD (↑x.fst : Int).toNat (0 : Int) ∧ l = l ∧ (↑l.length : Int) = (↑l.length : Int) ∧ (↑x.fst : Int) = (↑x.fst : Int) ∧ List.drop (Int.toNat (0 : Int)) (List.take ((↑x.fst : Int) + (1 : Int)).toNat l) = List.drop (Int.toNat (0 : Int)) (List.take ((↑x.fst : Int) + (1 : Int)).toNat l) ∧ (↑(List.drop (Int.toNat (0 : Int)) (List.take ((↑x.fst : Int) + (1 : Int)).toNat l)).length : Int) = (↑(List.drop (Int.toNat (0 : Int)) (List.take ((↑x.fst : Int) + (1 : Int)).toNat l)).length : Int) ∧ (↑x_1.fst : Int) + (1 : Int) = (↑x_2.fst : Int) ∧ True) ∧ True ∧ tabD = tabD ∧ True) ∧ (decide ((↑x_1.fst : Int) < (↑(List.drop (Int.toNat (0 : Int)) (List.take ((↑x.fst : Int) + (1 : Int)).toNat l)).length : Int)) = false → inK IntKind.i64 ((↑x.fst : Int) + (1 : Int)) ∧ ∃ (x_2 : Nat × Int), (x_2.fst ≤ l.length ∧ chkS n l = (0 : Int) ∧ MP n l x_2.fst (0 : Nat) x_2.snd) ∧ l.length - x_2.fst < l.length - x.fst ∧ (n = n ∧ l = l ∧ (0 : Int) = (0 : Int) ∧ (0 : Int) = (0 : Int) ∧ (0 : Int) = (0 : Int) ∧ x_1.snd = x_2.snd ∧ l = l ∧ (↑l.length : Int) = (↑l.length : Int) ∧ (↑x.fst : Int) + (1 : Int) = (↑x_2.fst : Int) ∧ True) ∧ True ∧ tabD = tabD ∧ True)) ∧ (decide ((↑x.fst : Int) < (↑l.length : Int)) = false → (0 : Int) ≤ n ∧ n < (64 : Int) ∧ IntKind.i64.bits = (64 : Nat) ∧ inK IntKind.i64 ((1 : Int) * (2 : Int) ^ n.toNat) ∧ (∃ (x_1 : Nat × Int), (x_1.fst ≤ (2 : Nat) ^ n.toNat ∧ chkS n l = (0 : Int) ∧ FP n l x_1.fst x_1.snd) ∧ (n = n ∧ l = l ∧ (0 : Int) = (0 : Int) ∧ n = x_1.snd ∧ (0 : Int) = (0 : Int) ∧ x.snd = x.snd ∧ (1 : Int) * (2 : Int) ^ n.toNat = (1 : Int) * (2 : Int) ^ n.toNat ∧ (0 : Int) = (↑x_1.fst : Int) ∧ True) ∧ True ∧ tabD = tabD ∧ True) ∧ ∀ (x_1 : Nat × Int), x_1.fst ≤ (2 : Nat) ^ n.toNat ∧ chkS n l = (0 : Int) ∧ FP n l x_1.fst x_1.snd → (decide ((↑x_1.fst : Int) < (1 : Int) * (2 : Int) ^ n.toNat) = true → (0 : Int) ≤ n ∧ n < (64 : Int) ∧ IntKind.i64.bits = (64 : Nat) ∧ inK IntKind.i64 ((1 : Int) * (2 : Int) ^ n.toNat) ∧ inK IntKind.i64 ((1 : Int) * (2 : Int) ^ n.toNat - (1 : Int)) ∧ (0 : Int) ≤ (1 : Int) * (2 : Int) ^ n.toNat - (1 : Int) ∧ (0 : Int) ≤ (↑x_1.fst : Int) ∧ ((0 : Int) ≤ (↑(((1 : Int) * (2 : Int) ^ n.toNat - (1 : Int)).toNat ^^^ ((1 : Int) * (2 : Int) ^ n.toNat - (1 : Int)).toNat &&& (↑x_1.fst : Int).toNat) : Int) ∧ ∀ (s : Int), s ∈ l → (0 : Int) ≤ s) ∧ ((!hasB l (↑(((1 : Int) * (2 : Int) ^ n.toNat - (1 : Int)).toNat ^^^ ((1 : Int) * (2 : Int) ^ n.toNat - (1 : Int)).toNat &&& (↑x_1.fst : Int).toNat) : Int)) = true → ((0 : Int) ≤ (↑x_1.fst : Int) ∧ (↑x_1.fst : Int) < (256 : Int)) ∧ inK IntKind.i64 ((↑(popN (↑x_1.fst : Int).toNat) : Int) - (1 : Int)) ∧ inK IntKind.i64 ((↑x_1.fst : Int) + (1 : Int)) ∧ ∃ (x_2 : Nat × Int), (x_2.fst ≤ (2 : Nat) ^ n.toNat ∧ chkS n l = (0 : Int) ∧ FP n l x_2.fst x_2.snd) ∧ (2 : Nat) ^ n.toNat - x_2.fst < (2 : Nat) ^ n.toNat - x_1.fst ∧ (n = n ∧ l = l ∧ (0 : Int) = (0 : Int) ∧ min x_1.snd ((↑(popN (↑x_1.fst : Int).toNat) : Int) - (1 : Int)) = x_2.snd ∧ (0 : Int) = (0 : Int) ∧ x.snd = x.snd ∧ (1 : Int) * (2 : Int) ^ n.toNat = (1 : Int) * (2 : Int) ^ n.toNat ∧ (↑x_1.fst : Int) + (1 : Int) = (↑x_2.fst : Int) ∧ True) ∧ True ∧ tabD = tabD ∧ True) ∧ ((!hasB l (↑(((1 : Int) * (2 : Int) ^ n.toNat - (1 : Int)).toNat ^^^ ((1 : Int) * (2 : Int) ^ n.toNat - (1 : Int)).toNat &&& (↑x_1.fst : Int).toNat) : Int)) = false → inK IntKind.i64 ((↑x_1.fst : Int) + (1 : Int)) ∧ ∃ (x_2 : Nat × Int), (x_2.fst ≤ (2 : Nat) ^ n.toNat ∧ chkS n l = (0 : Int) ∧ FP n l x_2.fst x_2.snd) ∧ (2 : Nat) ^ n.toNat - x_2.fst < (2 : Nat) ^ n.toNat - x_1.fst ∧ (n = n ∧ l = l ∧ (0 : Int) = (0 : Int) ∧ x_1.snd = x_2.snd ∧ (0 : Int) = (0 : Int) ∧ x.snd = x.snd ∧ (1 : Int) * (2 : Int) ^ n.toNat = (1 : Int) * (2 : Int) ^ n.toNat ∧ (↑x_1.fst : Int) + (1 : Int) = (↑x_2.fst : Int) ∧ True) ∧ True ∧ tabD = tabD ∧ True)) ∧ (decide ((↑x_1.fst : Int) < (1 : Int) * (2 : Int) ^ n.toNat) = false → inK IntKind.i64 (x.snd - (1 : Int)) ∧ (2 : Int) ≠ (0 : Int) ∧ inK IntKind.i64 ((x.snd - (1 : Int)).tdiv (2 : Int)) ∧ k [Dat.mk (I) ((x.snd - (1 : Int)).tdiv (2 : Int)), Dat.mk (I) x_1.snd, Dat.mk (Ty.err (58 : Nat)) (0 : Int)])))) := by kernel_rfl
theorem vcQM (n : Int) (l : List Int) (v : Int) (k : List Dat → Prop) : vcF ⟨Et, [(12, cFact), (22, cMasks), (23, cManyR), (15, cBoth), (14, cPow2), (19, cHas)], glT, [], []⟩ (anQM n l) (Tryd.f6.body.getD .skip) Tryd.f6.ntmps [(.tmp 6, .bool)] [⟨I, n⟩, ⟨.sl I, l⟩, ⟨I, v⟩] k = (
  True ∧ ((!true) = true → k [Dat.mk Ty.bool false]) ∧ ((!true) = false → ∀ (a f : Int), (chkS n l = (0 : Int) → (∃ (m : Int), MP n l l.length (0 : Nat) m ∧ a = (m - (1 : Int)).tdiv (2 : Int)) ∧ FP n l ((2 : Nat) ^ n.toNat) f) → (chkS n l ≠ (0 : Int) → a = (0 : Int) ∧ f = (0 : Int)) → ((!decide (chkS n l = (0 : Int))) = true → (decide (a = (0 : Int)) = true → k [Dat.mk Ty.bool (decide (f = (0 : Int)))]) ∧ (decide (a = (0 : Int)) = false → k [Dat.mk Ty.bool false])) ∧ ((!decide (chkS n l = (0 : Int))) = false → (decide (a < (0 : Int)) = true → k [Dat.mk Ty.bool false]) ∧ (decide (a < (0 : Int)) = false → (decide (f < (0 : Int)) = true → k [Dat.mk Ty.bool false]) ∧ (decide (f < (0 : Int)) = false → (decide (n ≤ f) = true → k [Dat.mk Ty.bool false]) ∧ (decide (n ≤ f) = false → (∃ (x : Nat × Bool), (x.fst ≤ l.length ∧ (x.snd = true ↔ tightB l a x.fst (0 : Nat))) ∧ (n = n ∧ l = l ∧ v = v ∧ a = a ∧ f = f ∧ false = x.snd ∧ (0 : Int) = (↑x.fst : Int) ∧ True) ∧ True ∧ tabD = tabD ∧ True) ∧ ∀ (x : Nat × Bool), x.fst ≤ l.length ∧ (x.snd = true ↔ tightB l a x.fst (0 : Nat)) → (decide ((↑x.fst : Int) < (↑l.length : Int)) = true → (∃ (x_1 : Nat × Bool), (x_1.fst ≤ l.length ∧ (x_1.snd = true ↔ tightB l a (↑x.fst : Int).toNat x_1.fst)) ∧ (n = n ∧ l = l ∧ v = v ∧ a = a ∧ f = f ∧ x.snd = x_1.snd ∧ (↑x.fst : Int) = (↑x.fst : Int) ∧ (0 : Int) = (↑x_1.fst : Int) ∧ True) ∧ True ∧ tabD = tabD ∧ True) ∧ ∀ (x_1 : Nat × Bool), x_1.fst ≤ l.length ∧ (x_1.snd = true ↔ tightB l a (↑x.fst : Int).toNat x_1.fst) → (decide ((↑x_1.fst : Int) < (↑l.length : Int)) = true → ((0 : Int) ≤ (↑x.fst : Int) ∧ (↑x.fst : Int) < (↑l.length : Int) ∧ (0 : Int) ≤ (↑x_1.fst : Int) ∧ (↑x_1.fst : Int) < (↑l.length : Int) ∧ (l.getD (↑x.fst : Int).toNat (0 : Int) < (2305843009213693952 : Int) ∧ True) ∧ ((↑((l.getD (↑x.fst : Int).toNat (0 : Int)).toNat &&& (l.getD (↑x_1.fst : Int).toNat (0 : Int)).toNat) : Int) < (256 : Int) ∧ True) ∧ True) ∧ inK IntKind.i64 ((↑(popN (↑((l.getD (↑x.fst : Int).toNat (0 : Int)).toNat &&& (l.getD (↑x_1.fst : Int).toNat (0 : Int)).toNat) : Int).toNat) : Int) - a) ∧ (decide ((↑(popN (↑((l.getD (↑x.fst : Int).toNat (0 : Int)).toNat &&& (l.getD (↑x_1.fst : Int).toNat (0 : Int)).toNat) : Int).toNat) : Int) - a ≤ a) = true → k [Dat.mk Ty.bool false]) ∧ (decide ((↑(popN (↑((l.getD (↑x.fst : Int).toNat (0 : Int)).toNat &&& (l.getD (↑x_1.fst : Int).toNat (0 : Int)).toNat) : Int).toNat) : Int) - a ≤ a) = false → (x_1.snd = true → inK IntKind.i64 ((↑x_1.fst : Int) + (1 : Int)) ∧ ∃ (x_2 : Nat × Bool), (x_2.fst ≤ l.length ∧ (x_2.snd = true ↔ tightB l a (↑x.fst : Int).toNat x_2.fst)) ∧ l.length - x_2.fst < l.length - x_1.fst ∧ (n = n ∧ l = l ∧ v = v ∧ a = a ∧ f = f ∧ true = x_2.snd ∧ (↑x.fst : Int) = (↑x.fst : Int) ∧ (↑x_1.fst : Int) + (1 : Int) = (↑x_2.fst : Int) ∧ True) ∧ True ∧ tabD = tabD ∧ True) ∧ (x_1.snd = false → inK IntKind.i64 ((↑(popN (↑((l.getD (↑x.fst : Int).toNat (0 : Int)).toNat &&& (l.getD (↑x_1.fst : Int).toNat (0 : Int)).toNat) : Int).toNat) : Int) - a) ∧ inK IntKind.i64 ((↑(popN (↑((l.getD (↑x.fst : Int).toNat (0 : Int)).toNat &&& (l.getD (↑x_1.fst : Int).toNat (0 : Int)).toNat) : Int).toNat) : Int) - a - (1 : Int)) ∧ inK IntKind.i64 (a + (1 : Int)) ∧ inK IntKind.i64 ((↑x_1.fst : Int) + (1 : Int)) ∧ ∃ (x_2 : Nat × Bool), (x_2.fst ≤ l.length ∧ (x_2.snd = true ↔ tightB l a (↑x.fst : Int).toNat x_2.fst)) ∧ l.length - x_2.fst < l.length - x_1.fst ∧ (n = n ∧ l = l ∧ v = v ∧ a = a ∧ f = f ∧ decide ((↑(popN (↑((l.getD (↑x.fst : Int).toNat (0 : Int)).toNat &&& (l.getD (↑x_1.fst : Int).toNat (0 : Int)).toNat) : Int).toNat) : Int) - a - (1 : Int) ≤ a + (1 : Int)) = x_2.snd ∧ (↑x.fst : Int) = (↑x.fst : Int) ∧ (↑x_1.fst : Int) + (1 : Int) = (↑x_2.fst : Int) ∧ True) ∧ True ∧ tabD = tabD ∧ True))) ∧ (decide ((↑x_1.fst : Int) < (↑l.length : Int)) = false → inK IntKind.i64 ((↑x.fst : Int) + (1 : Int)) ∧ ∃ (x_2 : Nat × Bool), (x_2.fst ≤ l.length ∧ (x_2.snd = true ↔ tightB l a x_2.fst (0 : Nat))) ∧ l.length - x_2.fst < l.length - x.fst ∧ (n = n ∧ l = l ∧ v = v ∧ a = a ∧ f = f ∧ x_1.snd = x_2.snd ∧ (↑x.fst : Int) + (1 : Int) = (↑x_2.fst : Int) ∧ True) ∧ True ∧ tabD = tabD ∧ True)) ∧ (decide ((↑x.fst : Int) < (↑l.length : Int)) = false → ((!x.snd) = true → k [Dat.mk Ty.bool false]) ∧ ((!x.snd) = false → (decide (v < (0 : Int)) = true → k [Dat.mk Ty.bool true]) ∧ (decide (v < (0 : Int)) = false → (n ≤ (61 : Int) ∧ True) ∧ (decide ((2 : Int) ^ n.toNat ≤ v) = true → k [Dat.mk Ty.bool true]) ∧ (decide ((2 : Int) ^ n.toNat ≤ v) = false → (v < (256 : Int) ∧ True) ∧ (decide (f < (↑(popN v.toNat) : Int)) = true → k [Dat.mk Ty.bool true]) ∧ (decide (f < (↑(popN v.toNat) : Int)) = false → (n ≤ (61 : Int) ∧ True) ∧ inK IntKind.i64 ((2 : Int) ^ n.toNat - (1 : Int)) ∧ inK IntKind.i64 ((2 : Int) ^ n.toNat - (1 : Int) - v) ∧ True ∧ (decide (hasE n l ((2 : Int) ^ n.toNat - (1 : Int) - v) = (0 : Int)) = true → k [Dat.mk Ty.bool (if hasE n l ((2 : Int) ^ n.toNat - (1 : Int) - v) = (0 : Int) then hasB l ((2 : Int) ^ n.toNat - (1 : Int) - v) else false)]) ∧ (decide (hasE n l ((2 : Int) ^ n.toNat - (1 : Int) - v) = (0 : Int)) = false → k [Dat.mk Ty.bool false])))))))))))) := by kernel_rfl
end Go.Proofs.YtlopkkoenfngiaaDoor

/- Quorums: how many bits. -/
namespace Go.Proofs.YtlopkkoenfngiaaDoor
open Go.Vc

theorem okMany : PlainOk Tryd.prog glT 47 cMany := by
  intro ds k hs w R0 vals hR0 hG hD
  obtain ⟨hp, hk⟩ := hs
  obtain ⟨n, rfl, h0, h1⟩ := dest1 hp
  have hk : k [⟨I, (popN n.toNat : Int)⟩] := hk
  obtain ⟨hl, hd⟩ := hD
  match vals, hl with
  | [v], _ =>
    have hv : v = .int .i64 n := by
      have h : Ty.okV w R0 I n v := hd 0 ⟨I, n⟩ v rfl rfl
      unfold Ty.okV at h
      simp only [Ty.agg, Bool.false_eq_true, if_false, Ty.ok] at h
      injection h.1
    subst hv
    obtain ⟨m, rfl⟩ := Int.eq_ofNat_of_zero_le h0
    refine (show Calls Tryd.prog 47 #[.int .i64 (m : Int)] w _ from many m (by omega) w).mono fun e w' ⟨he, hw⟩ => ?_
    subst hw
    refine ⟨Fr.refl _ _, [⟨I, (popN m : Int)⟩], _, he, by simpa using hk, ?_⟩
    have hle := popN_le ⟨8, by omega⟩ ⟨m, by omega⟩ (by show m < 2 ^ 8; omega)
    simp only at hle
    show Ty.okV _ _ I (popN m : Int) _
    unfold Ty.okV
    simp only [Ty.agg, Bool.false_eq_true, if_false, Ty.ok]
    exact ⟨trivial, inK_i64.2 (by omega)⟩

theorem popK_succ (x k : Nat) : popK x (k + 1) = popK x k + (if x.testBit k = true then 1 else 0) := by
  unfold popK
  rw [List.range_succ, List.filter_append, List.length_append, List.filter_cons]
  cases x.testBit k <;> rfl
theorem popK_le (x k : Nat) : popK x k ≤ k := by
  unfold popK
  exact Nat.le_trans (List.length_filter_le _ _) (by simp)
theorem popK_top {x k : Nat} (hx : x < 2 ^ k) (hk : k ≤ 8) : popK x k = popN x := by
  have key : ∀ d, k + d ≤ 8 → popK x (k + d) = popK x k := by
    intro d
    induction d with
    | zero => intro _; rfl
    | succ d ih =>
      intro hd
      have hb : x.testBit (k + d) = false := Nat.testBit_lt_two_pow (Nat.lt_of_lt_of_le hx (Nat.pow_le_pow_right (by decide) (by omega)))
      rw [← Nat.add_assoc, popK_succ, ih (by omega), hb]; rfl
  have := key (8 - k) (by omega)
  rw [show k + (8 - k) = 8 by omega] at this
  rw [← this]; rfl

theorem okManyR : PlainOk Tryd.prog glT 23 cManyR := by
  refine plain_of (CxOk.mk' Et_ok rfl mixed (gl := glT) GOk.nil GoOk.nil noIt) Tryd.func23 (c := Tryd.f23.body.getD .skip) (rvs := [(.tmp 2, I)]) (by kernel_rfl) (by kernel_rfl) (by kernel_rfl) ?_
  intro ds k ⟨hp, hk⟩ hwf
  obtain ⟨s, rfl, h256, -⟩ := dest1 hp
  have hk : k [⟨I, (popN s.toNat : Int)⟩] := hk
  have hs : inK .i64 s := wf1 hwf
  refine ⟨anManyR s, ?_⟩
  rw [vcManyR]
  simp only [decide_eq_true_eq, decide_eq_false_iff_not, and_true, true_and, ne_eq]
  have h20 : ¬ (2 : Int) = 0 := by decide
  refine ⟨⟨0, by omega, by simp, rfl⟩, fun x hx => ⟨fun h => ?_, fun h => ?_⟩⟩
  · have hpos : 0 ≤ s := by
      refine Int.not_lt.1 fun hneg => ?_
      have := Int.tdiv_nonneg (a := -s) (b := (2 : Int) ^ x) (by omega) (Int.le_of_lt (two_pow_pos x))
      rw [Int.neg_tdiv] at this; omega
    obtain ⟨m, rfl⟩ := Int.eq_ofNat_of_zero_le hpos
    simp only [Int.toNat_natCast] at *
    have hx7 : x ≤ 7 := by
      rcases Nat.lt_or_ge x 8 with h1 | h1
      · omega
      · have hx8 : x = 8 := by omega
        subst hx8
        rw [tdivN] at h
        have : m / 2 ^ 8 = 0 := Nat.div_eq_of_lt (by omega)
        rw [this] at h
        exact absurd h (by decide)
    have hle := popK_le m x
    have hmod : ((m : Int).tdiv ((2 : Int) ^ x)).tmod 2 = if m.testBit x = true then 1 else 0 := by
      have h1 := tmod_bit m x
      have h2 := Int.tmod_two_eq ((m : Int).tdiv ((2 : Int) ^ x))
      have h3 := Int.tmod_nonneg (a := (m : Int).tdiv ((2 : Int) ^ x)) 2 (by omega)
      by_cases hb : m.testBit x = true
      · rw [if_pos hb]; exact h1.2 hb
      · rw [if_neg hb]
        have : ¬ ((m : Int).tdiv ((2 : Int) ^ x)).tmod 2 = 1 := fun e => hb (h1.1 e)
        omega
    have hst := popK_succ m x
    refine ⟨h20, (tdiv_in hs x).2, ?_, h20, by rw [tdiv_pow]; exact (tdiv_in hs (x + 1)).1, x + 1, by omega, by omega, tdiv_pow _ _, ?_⟩
    · rw [hmod]
      split <;> exact inK_i64.2 (by omega)
    · rw [hmod, hst]
      split <;> simp
  · have : popK s.toNat x = popN s.toNat := by
      refine popK_top ?_ hx
      by_cases hpos : 0 ≤ s
      · obtain ⟨m, rfl⟩ := Int.eq_ofNat_of_zero_le hpos
        rw [tdivN] at h
        rw [Int.toNat_natCast]
        have h0 : m / 2 ^ x = 0 := by
          generalize m / 2 ^ x = q at h
          omega
        rcases Nat.lt_or_ge m (2 ^ x) with h1 | h1
        · exact h1
        · have := Nat.div_pos h1 (Nat.two_pow_pos x); omega
      · have hneg : s < (0 : Int) := Int.not_le.1 hpos
        have : s.toNat = 0 := Int.toNat_of_nonpos (Int.le_of_lt hneg)
        rw [this]; exact Nat.two_pow_pos x
    rw [this]; exact hk

theorem mp_step {n : Int} {l : List Int} {i j : Nat} {m : Int} (hi : i < l.length) (hj : j ≤ i) (h : MP n l i j m) : MP n l i (j + 1) (min m (popI (l.getD i 0) (l.getD j 0))) := by
  obtain ⟨h1, h2, h3⟩ := h
  refine ⟨by omega, fun a b hab => ?_, ?_⟩
  · by_cases hc : a = i ∧ b = j
    · obtain ⟨rfl, rfl⟩ := hc
      omega
    · have := h2 a b (by omega)
      omega
  · rcases Int.le_total m (popI (l.getD i 0) (l.getD j 0)) with hle | hle
    · rw [Int.min_eq_left hle]; exact h3
    · rw [Int.min_eq_right hle]
      exact .inr ⟨i, j, hi, by omega, rfl⟩
theorem mp_next {n : Int} {l : List Int} {i : Nat} {m : Int} (h : MP n l i (i + 1) m) : MP n l (i + 1) 0 m := by
  obtain ⟨h1, h2, h3⟩ := h
  exact ⟨h1, fun a b hab => h2 a b (by omega), h3⟩

theorem masks_vc (n : Int) (l : List Int) (k : List Dat → Prop) (hk : ∀ a f : Int, (chkS n l = 0 → (∃ m : Int, MP n l l.length 0 m ∧ a = (m - 1).tdiv 2) ∧ FP n l (2 ^ n.toNat) f) → (chkS n l ≠ 0 → a = 0 ∧ f = 0) → k [⟨I, a⟩, ⟨I, f⟩, ⟨tErr, chkS n l⟩]) :
    vcF ⟨Et, [(20, cCheck), (42, cHas0), (47, cMany)], glT, [], []⟩ (anMasks n l) (Tryd.f22.body.getD .skip) Tryd.f22.ntmps [(.tmp 4, I), (.tmp 5, I), (.tmp 6, tErr)] [⟨I, n⟩, ⟨.sl I, l⟩] k := by
  rw [vcMasks]
  simp only [decide_eq_true_eq, decide_eq_false_iff_not, and_true, true_and, Bool.not_eq_true', Bool.not_eq_false', Int.toNat_natCast]
  refine ⟨fun h => hk 0 0 (fun e => absurd e h) fun _ => ⟨rfl, rfl⟩, fun h => ?_⟩
  have g := sets_of h
  have hn := g.rng
  have hlen := g.len
  have hpw := pow8 hn.2
  have hpp := Nat.two_pow_pos n.toNat
  have hpc := powC n.toNat
  rw [h] at hk
  have hmem : ∀ s ∈ l, 0 ≤ s := fun s hs => by have := g.mem s hs; omega
  simp only [h, true_and]
  refine ⟨⟨(0, n), ⟨by simp only; omega, Int.le_refl _, fun a b hab => by omega, .inl rfl⟩, rfl, rfl⟩, fun x ⟨hx, hmp⟩ => ⟨fun hlt => ?_, fun hge => ?_⟩⟩
  · obtain ⟨i, m⟩ := x
    simp only at *
    have hil : i < l.length := by omega
    have htk : ∀ y, y ≤ i → (List.drop (Int.toNat 0) (List.take ((i : Int) + 1).toNat l)).getD y 0 = l.getD y 0 := by
      intro y hy
      have e : List.drop (Int.toNat 0) (List.take ((i : Int) + 1).toNat l) = l.take (i + 1) := by
        rw [show ((i : Int) + 1).toNat = i + 1 by omega]; rfl
      have hlt' : y < (l.take (i + 1)).length := by rw [List.length_take]; omega
      rw [e, getD_at hlt', getD_at (by omega), List.getElem_take]
    have hdl : (List.drop (Int.toNat 0) (List.take ((i : Int) + 1).toNat l)).length = i + 1 := by
      have e : List.drop (Int.toNat 0) (List.take ((i : Int) + 1).toNat l) = l.take (i + 1) := by
        rw [show ((i : Int) + 1).toNat = i + 1 by omega]; rfl
      rw [e, List.length_take]; omega
    rw [hdl]
    refine ⟨by omega, hlt, inK_i64.2 (by omega), by omega, by omega, by omega, ⟨(0, m), ⟨by simp only; omega, hmp⟩, rfl, rfl⟩, fun y ⟨hy, hmy⟩ => ⟨fun hlt2 => ?_, fun hge2 => ?_⟩⟩
    · obtain ⟨j, m2⟩ := y
      simp only at *
      have hji : j ≤ i := by omega
      rw [htk j hji]
      have h1 := hmem _ (getD_mem hil)
      have h2 := hmem _ (getD_mem (l := l) (i := j) (by omega))
      have h3 := g.mem _ (getD_mem hil)
      have hlt256 : (l.getD i 0).toNat &&& (l.getD j 0).toNat < 256 := by
        refine Nat.lt_of_le_of_lt Nat.and_le_left ?_
        rw [hpc] at h3; omega
      exact ⟨by omega, by omega, h1, h2, ⟨by omega, by omega⟩, inK_i64.2 (by omega), (j + 1, min m2 (popI (l.getD i 0) (l.getD j 0))), ⟨by simp only; omega, mp_step hil hji hmy⟩, by simp only; omega, rfl, by simp only; omega⟩
    · obtain ⟨j, m2⟩ := y
      simp only at *
      have hji : j = i + 1 := by omega
      subst hji
      exact ⟨inK_i64.2 (by omega), (i + 1, m2), ⟨by simp only; omega, mp_next hmy⟩, by simp only; omega, rfl, by simp only; omega⟩
  · obtain ⟨i, m⟩ := x
    simp only at *
    have hil : i = l.length := by omega
    subst hil
    have hmpe := mp_end g hmp
    refine ⟨by omega, by omega, rfl, inK_i64.2 (by rw [hpc]; omega), ⟨(0, n), ⟨by simp only; omega, Int.le_refl _, fun a ha => by omega, .inl rfl⟩, rfl, rfl⟩, fun x ⟨hx, hfp⟩ => ⟨fun hlt => ?_, fun hge3 => ?_⟩⟩
    · obtain ⟨x, f⟩ := x
      simp only at *
      have hxl : x < 2 ^ n.toNat := by rw [hpc] at hlt; omega
      have hpx := popN_le ⟨8, by omega⟩ ⟨x, by omega⟩ (by show x < 2 ^ 8; omega)
      simp only at hpx
      refine ⟨by omega, by omega, rfl, inK_i64.2 (by rw [hpc]; omega), inK_i64.2 (by rw [hpc]; omega), by rw [hpc]; omega, by omega, ⟨Int.natCast_nonneg _, hmem⟩, fun hb => ⟨⟨by omega, by omega⟩, inK_i64.2 (by omega), inK_i64.2 (by omega), (x + 1, min f ((popN x : Int) - 1)), ⟨by simp only; omega, ?_⟩, by simp only; omega, rfl, by simp only; omega⟩,
        fun hb => ⟨inK_i64.2 (by omega), (x + 1, f), ⟨by simp only; omega, ?_⟩, by simp only; omega, rfl, by simp only; omega⟩⟩
      · obtain ⟨h1, h2, h3⟩ := hfp
        refine ⟨by omega, fun y hy hyb => ?_, ?_⟩
        · rcases Nat.lt_or_ge y x with h4 | h4
          · have := h2 y h4 hyb; omega
          · have : y = x := by omega
            subst this; omega
        · rcases Int.le_total f ((popN x : Int) - 1) with hle | hle
          · rw [Int.min_eq_left hle]; exact h3
          · rw [Int.min_eq_right hle]
            exact .inr ⟨x, hxl, hb, rfl⟩
      · obtain ⟨h1, h2, h3⟩ := hfp
        refine ⟨h1, fun y hy hyb => ?_, h3⟩
        rcases Nat.lt_or_ge y x with h4 | h4
        · exact h2 y h4 hyb
        · have : y = x := by omega
          subst this
          have hb' : hasB l (complN n (y : Int)) = true := hb
          rw [hb'] at hyb; cases hyb
    · obtain ⟨x, f⟩ := x
      simp only at *
      have hxe : x = 2 ^ n.toNat := by rw [hpc] at hge3; omega
      subst hxe
      have hm1 := hmpe.2.1
      have hm2 := hmp.1
      have hq : 0 ≤ (m - 1).tdiv 2 ∧ (m - 1).tdiv 2 ≤ m - 1 := by
        rw [Int.tdiv_eq_ediv_of_nonneg (by omega)]
        omega
      refine ⟨inK_i64.2 (by omega), by decide, inK_i64.2 (by omega), ?_⟩
      exact hk _ f (fun _ => ⟨⟨m, hmp, rfl⟩, hfp⟩) fun e => absurd rfl e

theorem okMasks : PlainOk Tryd.prog glT 22 cMasks := by
  refine plain_of (CxOk.mk' Et_ok rfl mixed (gl := glT) (GOk.cons okCheck Tryd.func20 (by kernel_rfl) (by kernel_rfl) (GOk.cons okHas0 Tryd.func42 (by kernel_rfl) (by kernel_rfl) (GOk.cons okMany Tryd.func47 (by kernel_rfl) (by kernel_rfl) GOk.nil))) GoOk.nil noIt) Tryd.func22 (c := Tryd.f22.body.getD .skip) (rvs := [(.tmp 4, I), (.tmp 5, I), (.tmp 6, tErr)]) (by kernel_rfl) (by kernel_rfl) (by kernel_rfl) ?_
  intro ds k hs hwf
  obtain ⟨n, l, rfl, h⟩ := gdest2 hs
  exact ⟨anMasks n l, masks_vc n l k h⟩
end Go.Proofs.YtlopkkoenfngiaaDoor

/- Generals: asking, at any depth; deciding. -/
namespace Go.Proofs.YtlopkkoenfngiaaDoor
open Go.Vc
theorem ownAsk (d : Nat) (h : PlainOk Tryd.prog glT 51 (cAsk d)) : OwnOk Tryd.prog glT 51 (oAsk (d + 1)) := by
  refine own_of (CxOk.mk' En_ok rfl mixed (gl := glT) (GOk.cons okBits Tryd.func41 (by kernel_rfl) (by kernel_rfl) (GOk.cons okSends.lift Tryd.func61 (by kernel_rfl) (by kernel_rfl) (GOk.cons okMany Tryd.func47 (by kernel_rfl) (by kernel_rfl) (GOk.cons h Tryd.func51 (by kernel_rfl) (by kernel_rfl) GOk.nil)))) GoOk.nil itB) Tryd.func51 (c := Tryd.f51.body.getD .skip) (rvs := [(.tmp 8, .un)]) (by kernel_rfl) (by kernel_rfl) (by kernel_rfl) ?_
  rintro args ob k ⟨a, p, i, o, rfl, rfl, hs, hk⟩ _ _
  exact ⟨anAsk a p i o, ask_vc d a p i o k hs hk⟩
theorem okAsk : ∀ d, PlainOk Tryd.prog glT 51 (cAsk d)
  | 0 => by
    intro ds k ⟨hp, hk⟩
    obtain ⟨a, p, i, o, rfl, hs⟩ := dest4 hp
    have := hs.k0
    have := hs.kd
    omega
  | d + 1 => by
    refine plain_of_own (ownAsk d (okAsk d)) fun ds k ⟨hp, hk⟩ => ?_
    obtain ⟨a, p, i, o, rfl, hs⟩ := dest4 hp
    exact ⟨a, p, i, o, rfl, rfl, hs, .sl I, _, _, rfl, hk⟩
/-- the same contract, said of what it is handed -/
def oAskM (d : Nat) : OCtr := fun args ob k =>
  match args, ob with
  | [.d (.pr (.int .i64) (.pr (.int .i64) (.pr (.sl (.int .i64)) .un))) a, .d (.sl (.int .i64)) p, .d (.int .i64) i, .d (.int .i64) o], [] => AskOk d a p i o ∧ k (.os 0) [.row 3 I (askF a i.toNat p o)]
  | _, _ => False
theorem ownAskM (d : Nat) : OwnOk Tryd.prog glT 51 (oAskM (d + 1)) := fun args ob k h => ownAsk d (okAsk d) args ob k (by
  unfold oAskM at h
  split at h
  · exact ⟨_, _, _, _, rfl, rfl, h.1, h.2⟩
  · exact h.elim)
/-- what is wrong with an army -/
def gErr (n deep liars order : Int) (lies : List Int) : Int :=
  if inB n 1 7 = false ∨ inB deep 0 2 = false ∨ maskB liars n = false ∨ inB order 0 1 = false then 1
  else if lies.length = 0 then 5 else if 24 < lies.length then 4 else if lies.all (fun x => inB x 0 1) = true then 0 else 1
def cGChk : Ctr := cdet [I, I, I, I, .sl I] (fun _ _ _ _ _ => True) (fun n deep liars order lies => [⟨tErr, gErr n deep liars order lies⟩])
def anGChk (l : List Int) : Ann := [joinAll, loopAt 8 Nat [] (fun st i => St.at (St.only st [0, 1, 2, 3, 4, 10, 41, 42]) [(43, .d I (i : Int))]) (fun _ i => i ≤ l.length ∧ ∀ x ∈ l.take i, inB x 0 1 = true) (fun i => l.length - i)]
def arOf (n liars : Int) (lies : List Int) : Ar := (n, liars, lies, ())
/-- what each does -/
def decF (n deep liars order : Int) (lies : List Int) : List Int :=
  if gErr n deep liars order lies = 0 then (askF (arOf n liars lies) deep.toNat [0] order).set 0 order else []
def cDecide : Ctr := cdet [I, I, I, I, .sl I] (fun _ _ _ _ _ => True) (fun n deep liars order lies => [⟨.sl I, decF n deep liars order lies⟩, ⟨tErr, gErr n deep liars order lies⟩])
end Go.Proofs.YtlopkkoenfngiaaDoor

/- What the functions of this seat have to satisfy, by program: each verification condition in plain words. -/
namespace Go.Proofs.YtlopkkoenfngiaaDoor
open Go.Vc
set_option linter.unusedVariables false
theorem vcGChk (n deep liars order : Int) (lies : List Int) (k : List Dat → Prop) : vcF ⟨En, [(39, cWithin), (43, cMask)], glT, [], []⟩ (anGChk lies) (Tryd.f37.body.getD .skip) Tryd.f37.ntmps [(.tmp 10, tErr)] [⟨I, n⟩, ⟨I, deep⟩, ⟨I, liars⟩, ⟨I, order⟩, ⟨.sl I, lies⟩] k = (
  True ∧ ((!inB n (1 : Int) (7 : Int)) = true → (1 : Int) ≠ (0 : Int) ∧ k [Dat.mk (Ty.err (58 : Nat)) (1 : Int)]) ∧ ((!inB n (1 : Int) (7 : Int)) = false → True ∧ ((!inB deep (0 : Int) (2 : Int)) = true → (1 : Int) ≠ (0 : Int) ∧ k [Dat.mk (Ty.err (58 : Nat)) (1 : Int)]) ∧ ((!inB deep (0 : Int) (2 : Int)) = false → ((0 : Int) ≤ n ∧ n ≤ (61 : Int)) ∧ ((!maskB liars n) = true → (1 : Int) ≠ (0 : Int) ∧ k [Dat.mk (Ty.err (58 : Nat)) (1 : Int)]) ∧ ((!maskB liars n) = false → True ∧ ((!inB order (0 : Int) (1 : Int)) = true → (1 : Int) ≠ (0 : Int) ∧ k [Dat.mk (Ty.err (58 : Nat)) (1 : Int)]) ∧ ((!inB order (0 : Int) (1 : Int)) = false → (decide ((↑lies.length : Int) = (0 : Int)) = true → (5 : Int) ≠ (0 : Int) ∧ k [Dat.mk (Ty.err (58 : Nat)) (5 : Int)]) ∧ (decide ((↑lies.length : Int) = (0 : Int)) = false → (decide ((24 : Int) < (↑lies.length : Int)) = true → (4 : Int) ≠ (0 : Int) ∧ k [Dat.mk (Ty.err (58 : Nat)) (4 : Int)]) ∧ (decide ((24 : Int) < (↑lies.length : Int)) = false → (∃ (x : Nat), (x ≤ lies.length ∧ ∀ (x_1 : Int), x_1 ∈ List.take x lies → inB x_1 (0 : Int) (1 : Int) = true) ∧ (n = n ∧ deep = deep ∧ liars = liars ∧ order = order ∧ lies = lies ∧ (0 : Int) = (0 : Int) ∧ lies = lies ∧ (↑lies.length : Int) = (↑lies.length : Int) ∧ (0 : Int) = (↑x : Int) ∧ True) ∧ True ∧ tabD = tabD ∧ True) ∧ ∀ (x : Nat), (x ≤ lies.length ∧ ∀ (x_1 : Int), x_1 ∈ List.take x lies → inB x_1 (0 : Int) (1 : Int) = true) → (decide ((↑x : Int) < (↑lies.length : Int)) = true → (0 : Int) ≤ (↑x : Int) ∧ (↑x : Int) < (↑lies.length : Int) ∧ True ∧ ((!inB (lies.getD (↑x : Int).toNat (0 : Int)) (0 : Int) (1 : Int)) = true → (1 : Int) ≠ (0 : Int) ∧ k [Dat.mk (Ty.err (58 : Nat)) (1 : Int)]) ∧ ((!inB (lies.getD (↑x : Int).toNat (0 : Int)) (0 : Int) (1 : Int)) = false → inK IntKind.i64 ((↑x : Int) + (1 : Int)) ∧ ∃ (x_1 : Nat), (x_1 ≤ lies.length ∧ ∀ (x : Int), x ∈ List.take x_1 lies → inB x (0 : Int) (1 : Int) = true) ∧ lies.length - x_1 < lies.length - x ∧ (n = n ∧ deep = deep ∧ liars = liars ∧ order = order ∧ lies = lies ∧ (0 : Int) = (0 : Int) ∧ lies = lies ∧ (↑lies.length : Int) = (↑lies.length : Int) ∧ (↑x : Int) + (1 : Int) = (↑x_1 : Int) ∧ True) ∧ True ∧ tabD = tabD ∧ True)) ∧ (decide ((↑x : Int) < (↑lies.length : Int)) = false → k [Dat.mk (Ty.err (58 : Nat)) (0 : Int)])))))))) := by kernel_rfl
theorem vcDecide (n deep liars order : Int) (lies : List Int) (k : List Dat → Prop) : vcF ⟨En, [(37, cGChk)], glT, [], [(51, oAskM 3)]⟩ [] (Tryd.f34.body.getD .skip) Tryd.f34.ntmps [(.tmp 10, .sl I), (.tmp 11, tErr)] [⟨I, n⟩, ⟨I, deep⟩, ⟨I, liars⟩, ⟨I, order⟩, ⟨.sl I, lies⟩] k = (
  True ∧ ((!decide (gErr n deep liars order lies = (0 : Int))) = true → k [Dat.mk (I).sl [], Dat.mk (Ty.err (58 : Nat)) (gErr n deep liars order lies)]) ∧ ((!decide (gErr n deep liars order lies = (0 : Int))) = false → AskOk (3 : Nat) (n, liars, lies, ()) ((List.replicate (1 : Nat) (0 : Int)).set (0 : Nat) (0 : Int)) deep order ∧ (0 : Int) ≤ (0 : Int) ∧ (0 : Int) < (↑(askF (n, liars, lies, ()) deep.toNat ((List.replicate (1 : Nat) (0 : Int)).set (0 : Nat) (0 : Int)) order).length : Int) ∧ k [Dat.mk (I).sl ((askF (n, liars, lies, ()) deep.toNat ((List.replicate (1 : Nat) (0 : Int)).set (0 : Nat) (0 : Int)) order).set (0 : Nat) order), Dat.mk (Ty.err (58 : Nat)) (0 : Int)])) := by kernel_rfl
end Go.Proofs.YtlopkkoenfngiaaDoor

/- Generals: checking, deciding. -/
namespace Go.Proofs.YtlopkkoenfngiaaDoor
open Go.Vc
theorem gchk_vc (n deep liars order : Int) (lies : List Int) (k : List Dat → Prop) (hk : k [⟨tErr, gErr n deep liars order lies⟩]) :
    vcF ⟨En, [(39, cWithin), (43, cMask)], glT, [], []⟩ (anGChk lies) (Tryd.f37.body.getD .skip) Tryd.f37.ntmps [(.tmp 10, tErr)] [⟨I, n⟩, ⟨I, deep⟩, ⟨I, liars⟩, ⟨I, order⟩, ⟨.sl I, lies⟩] k := by
  rw [vcGChk]
  simp only [Bool.not_eq_true', Bool.not_eq_false', and_true, true_and]
  unfold gErr at hk
  refine ⟨fun h1 => ⟨by decide, ?_⟩, fun h1 => ⟨fun h2 => ⟨by decide, ?_⟩, fun h2 => ⟨by have := inB_of h1; omega, fun h3 => ⟨by decide, ?_⟩, fun h3 => ⟨fun h4 => ⟨by decide, ?_⟩, fun h4 => ⟨fun h5 => ⟨by decide, ?_⟩, fun h5 => ⟨fun h6 => ⟨by decide, ?_⟩, fun h6 => ⟨⟨0, ⟨by omega, by simp⟩, rfl⟩, fun x ⟨hx, hall⟩ => ⟨fun h7 => ⟨by omega, ?_⟩, fun h7 => ?_⟩⟩⟩⟩⟩⟩⟩⟩
  · rw [if_pos (.inl h1)] at hk; exact hk
  · rw [if_pos (.inr (.inl h2))] at hk; exact hk
  · rw [if_pos (.inr (.inr (.inl h3)))] at hk; exact hk
  · rw [if_pos (.inr (.inr (.inr h4)))] at hk; exact hk
  all_goals
    rw [if_neg (by simp [h1, h2, h3, h4])] at hk
  · have : lies.length = 0 := by have := of_decide_eq_true h5; omega
    rw [if_pos this] at hk; exact hk
  all_goals
    have h5 := of_decide_eq_false h5
    rw [if_neg (by omega)] at hk
  · have : 24 < lies.length := by have := of_decide_eq_true h6; omega
    rw [if_pos this] at hk; exact hk
  all_goals
    have h6 := of_decide_eq_false h6
    rw [if_neg (by omega)] at hk
  · have h7 := of_decide_eq_true h7
    have hl : x < lies.length := by omega
    rw [Int.toNat_natCast]
    refine ⟨by omega, fun h8 => ⟨by decide, ?_⟩, fun h8 => ⟨inK_i64.2 (by omega), x + 1, ⟨by omega, fun y hy => ?_⟩, by omega, by omega⟩⟩
    · have : ¬ (lies.all fun x => inB x 0 1) = true := fun h => by
        have := List.all_eq_true.1 h _ (getD_mem hl)
        rw [h8] at this; cases this
      rw [if_neg this] at hk; exact hk
    · rw [take_snoc hl] at hy
      rcases List.mem_append.1 hy with hy | hy
      · exact hall y hy
      · rw [List.mem_singleton.1 hy]; exact h8
  · have h7 := of_decide_eq_false h7
    have hl : x = lies.length := by omega
    rw [hl, List.take_length] at hall
    rw [if_pos (List.all_eq_true.2 hall)] at hk; exact hk
theorem okGChk : PlainOk Tryd.prog glT 37 cGChk := by
  refine plain_of (CxOk.mk' En_ok rfl mixed (gl := glT) (GOk.cons okWithin Tryd.func39 (by kernel_rfl) (by kernel_rfl) (GOk.cons okMask Tryd.func43 (by kernel_rfl) (by kernel_rfl) GOk.nil)) GoOk.nil noIt) Tryd.func37 (c := Tryd.f37.body.getD .skip) (rvs := [(.tmp 10, tErr)]) (by kernel_rfl) (by kernel_rfl) (by kernel_rfl) ?_
  intro ds k ⟨hp, hk⟩ hwf
  obtain ⟨n, d, l, o, x, rfl, -⟩ := dest5 hp
  exact ⟨anGChk x, gchk_vc n d l o x k hk⟩

structure GE (n deep liars order : Int) (lies : List Int) : Prop where
  hn : 1 ≤ n ∧ n ≤ 7
  hd : 0 ≤ deep ∧ deep ≤ 2
  hl : 0 ≤ liars ∧ liars < 2 ^ n.toNat
  ho : 0 ≤ order ∧ order ≤ 1
  ar : ArOk (arOf n liars lies)
theorem ge_of {n deep liars order : Int} {lies : List Int} (h : gErr n deep liars order lies = 0) : GE n deep liars order lies := by
  unfold gErr at h
  split at h
  · cases h
  rename_i h1
  split at h
  · cases h
  split at h
  · cases h
  split at h
  · rename_i h2 h3 h4
    simp only [not_or, Bool.not_eq_false] at h1
    obtain ⟨a, b, c, d⟩ := h1
    have a := inB_of a
    have b := inB_of b
    have c := mask_of c
    have d := inB_of d
    refine ⟨a, b, c, d, ⟨a.1, a.2, c.1, ?_, ?_, fun x hx => inB_of (List.all_eq_true.1 h4 x hx)⟩⟩
    · show 0 < lies.length; omega
    · show lies.length ≤ 24; omega
  · cases h
theorem dec_vc (n deep liars order : Int) (lies : List Int) (k : List Dat → Prop) (hk : k [⟨.sl I, decF n deep liars order lies⟩, ⟨tErr, gErr n deep liars order lies⟩]) :
    vcF ⟨En, [(37, cGChk)], glT, [], [(51, oAskM 3)]⟩ [] (Tryd.f34.body.getD .skip) Tryd.f34.ntmps [(.tmp 10, .sl I), (.tmp 11, tErr)] [⟨I, n⟩, ⟨I, deep⟩, ⟨I, liars⟩, ⟨I, order⟩, ⟨.sl I, lies⟩] k := by
  rw [vcDecide]
  simp only [Bool.not_eq_true', Bool.not_eq_false', and_true, true_and]
  refine ⟨fun h => ?_, fun h => ?_⟩
  · have h := of_decide_eq_false h
    unfold decF at hk
    rw [if_neg h] at hk
    exact hk
  · have h := of_decide_eq_true h
    have g := ge_of h
    unfold decF at hk
    rw [if_pos h, h] at hk
    have hn := g.hn
    have hd := g.hd
    refine ⟨⟨g.ar, ⟨by decide, by decide, fun y hy => ?_⟩, g.ho, hd.1, by omega, ?_⟩, by decide, ?_, hk⟩
    · have : y = 0 := by simpa [set1] using hy
      subst this
      show (0 : Int) ≤ 0 ∧ 0 < n
      omega
    · show (1 : Int) + deep ≤ 3
      omega
    · rw [ask_len]
      show (0 : Int) < (n.toNat : Int)
      omega
theorem okDecide : PlainOk Tryd.prog glT 34 cDecide := by
  refine plain_of (CxOk.mk' En_ok rfl mixed (gl := glT) (GOk.cons okGChk Tryd.func37 (by kernel_rfl) (by kernel_rfl) GOk.nil) (GoOk.cons (ownAskM 2) Tryd.func51 (by kernel_rfl) (by kernel_rfl) GoOk.nil) noIt) Tryd.func34 (c := Tryd.f34.body.getD .skip) (rvs := [(.tmp 10, .sl I), (.tmp 11, tErr)]) (by kernel_rfl) (by kernel_rfl) (by kernel_rfl) ?_
  intro ds k ⟨hp, hk⟩ hwf
  obtain ⟨n, d, l, o, x, rfl, -⟩ := dest5 hp
  exact ⟨[], dec_vc n d l o x k hk⟩
end Go.Proofs.YtlopkkoenfngiaaDoor

/- Generals: what the answers are, one by one; who agrees. -/
namespace Go.Proofs.YtlopkkoenfngiaaDoor
open Go.Vc

/-! sums over the first few -/
def S (k : Nat) (f : Nat → Int) : Int := ((List.range k).map f).sum
theorem S_succ (k : Nat) (f : Nat → Int) : S (k + 1) f = S k f + f k := by
  unfold S; rw [List.range_succ, List.map_append, List.sum_append]; simp
theorem S_mono {f g : Nat → Int} : ∀ k, (∀ j, j < k → f j ≤ g j) → S k f ≤ S k g := by
  intro k
  induction k with
  | zero => intro _; exact Int.le_refl _
  | succ k ih =>
    intro h
    rw [S_succ, S_succ]
    have := ih fun j hj => h j (by omega)
    have := h k (by omega)
    omega
theorem S_congr {f g : Nat → Int} : ∀ k, (∀ j, j < k → f j = g j) → S k f = S k g := by
  intro k
  induction k with
  | zero => intro _; rfl
  | succ k ih =>
    intro h
    rw [S_succ, S_succ, ih fun j hj => h j (by omega), h k (by omega)]
theorem S_add (f g : Nat → Int) : ∀ k, S k (fun j => f j + g j) = S k f + S k g := by
  intro k
  induction k with
  | zero => rfl
  | succ k ih => rw [S_succ, S_succ, S_succ, ih]; omega
theorem S_zero : ∀ k, S k (fun _ => 0) = 0 := by
  intro k
  induction k with
  | zero => rfl
  | succ k ih => rw [S_succ, ih]; rfl
theorem S_stop {f : Nat → Int} {m : Nat} : ∀ k, (∀ j, m ≤ j → f j = 0) → S (m + k) f = S m f := by
  intro k h
  induction k with
  | zero => rfl
  | succ k ih => rw [← Nat.add_assoc, S_succ, ih, h _ (by omega)]; omega
theorem S_split {f : Nat → Int} {j : Nat} : ∀ k, j < k → S k f = S k (fun i => if i = j then 0 else f i) + f j := by
  intro k
  induction k with
  | zero => intro h; omega
  | succ k ih =>
    intro h
    rw [S_succ, S_succ]
    rcases Nat.lt_or_ge j k with hj | hj
    · rw [ih hj, if_neg (by omega)]; omega
    · have : j = k := by omega
      subst this
      rw [if_pos rfl, S_congr j (g := fun i => if i = j then 0 else f i) fun i hi => by rw [if_neg (by omega)]]
      omega
theorem bits_sum (f : Int → Int) {r : Nat} (hr : r < 128) : ((bitsOf (r : Int)).map f).sum = S 64 fun j => if r.testBit j = true then f j else 0 := by
  unfold bitsOf bitsN S
  have e : ((r : Int) % 18446744073709551616).toNat = r := by omega
  rw [e, List.map_map, filter_sum, List.range_eq_range']
  rfl
theorem pop_sum {r : Nat} (hr : r < 128) : (popN r : Int) = S 64 fun j => if r.testBit j = true then 1 else 0 := by
  have h : ∀ j, 8 ≤ j → (if r.testBit j = true then (1 : Int) else 0) = 0 := fun j hj => by
    rw [Nat.testBit_lt_two_pow (Nat.lt_of_lt_of_le (show r < 2 ^ 8 by omega) (Nat.pow_le_pow_right (by decide) hj))]; rfl
  rw [show (64 : Nat) = 8 + 56 from rfl, S_stop 56 h]
  unfold popN S
  rw [← filter_sum (fun _ => (1 : Int))]
  have : ∀ l : List Nat, ((l.map fun _ => (1 : Int)).sum) = (l.length : Int) := by
    intro l; induction l with
    | nil => rfl
    | cons a r ih => rw [List.map_cons, List.sum_cons, ih, List.length_cons]; omega
  rw [this]

/-! one by one -/
theorem got_at (a : Ar) (p : List Int) (o : Int) {x : List Int} (hx : ∀ y ∈ x, 0 ≤ y) {j : Nat} (hj : (j : Int) ∈ x) (hl : j < a.1.toNat) : (gotL a p o x).getD j 0 = sendsF a p j o := by
  have key : ∀ (x : List Int) (g : List Int), (∀ y ∈ x, 0 ≤ y) → j < g.length → (x.foldl (fun g i => g.set i.toNat (sendsF a p i o)) g).getD j 0 = if (j : Int) ∈ x then sendsF a p j o else g.getD j 0 := by
    intro x
    induction x with
    | nil => intro g _ _; simp
    | cons b r ih =>
      intro g h hg
      rw [List.foldl_cons, ih _ (fun y hy => h y (.tail _ hy)) (by rw [List.length_set]; exact hg), getD_set]
      have hb := h b (.head _)
      by_cases h1 : (j : Int) ∈ r
      · rw [if_pos h1, if_pos (.tail _ h1)]
      · rw [if_neg h1]
        by_cases h2 : b.toNat = j
        · have : (j : Int) = b := by omega
          rw [if_pos h2, if_pos hg, if_pos (by rw [this]; exact .head _), this]
        · rw [if_neg h2, if_neg fun h => by
            rcases List.mem_cons.1 h with h | h
            · omega
            · exact h1 h]
  unfold gotL
  rw [key x _ hx (by rw [List.length_replicate]; exact hl), if_pos hj]
theorem out_at (n many : Int) (ye go : List Int) {x : List Int} (hx : ∀ y ∈ x, 0 ≤ y) {j : Nat} (hj : (j : Int) ∈ x) (hl : j < n.toNat) :
    (outL n many ye go x).getD j 0 = if many < 2 * (ye.getD j 0 + go.getD j 0) then 1 else 0 := by
  have key : ∀ (x : List Int) (g : List Int), (∀ y ∈ x, 0 ≤ y) → j < g.length →
      (x.foldl (fun u i => if many < 2 * (ye.getD i.toNat 0 + go.getD i.toNat 0) then u.set i.toNat 1 else u) g).getD j 0 = if (j : Int) ∈ x ∧ many < 2 * (ye.getD j 0 + go.getD j 0) then 1 else g.getD j 0 := by
    intro x
    induction x with
    | nil => intro g _ _; simp
    | cons b r ih =>
      intro g h hg
      have hb := h b (.head _)
      rw [List.foldl_cons, ih _ (fun y hy => h y (.tail _ hy)) (by split <;> simp [hg])]
      by_cases hc : many < 2 * (ye.getD j 0 + go.getD j 0)
      · by_cases h1 : (j : Int) ∈ r
        · rw [if_pos ⟨h1, hc⟩, if_pos ⟨.tail _ h1, hc⟩]
        · rw [if_neg fun h => h1 h.1]
          by_cases h2 : b.toNat = j
          · have : (j : Int) = b := by omega
            rw [h2, if_pos hc, getD_set, if_pos rfl, if_pos hg, if_pos ⟨by rw [this]; exact .head _, hc⟩]
          · rw [if_neg (c := (j : Int) ∈ b :: r ∧ _) fun h => by
              rcases List.mem_cons.1 h.1 with h | h
              · omega
              · exact h1 h]
            split
            · rw [getD_set, if_neg h2]
            · rfl
      · have c1 : ¬ ((j : Int) ∈ r ∧ many < 2 * (ye.getD j 0 + go.getD j 0)) := fun h => hc h.2
        have c2 : ¬ ((j : Int) ∈ b :: r ∧ many < 2 * (ye.getD j 0 + go.getD j 0)) := fun h => hc h.2
        rw [if_neg c1, if_neg c2]
        by_cases h2 : b.toNat = j
        · rw [h2, if_neg hc]
        · split
          · rw [getD_set, if_neg h2]
          · rfl
  unfold outL
  rw [key x _ hx (by rw [List.length_replicate]; exact hl), getD_rep]
  by_cases hc : many < 2 * (ye.getD j 0 + go.getD j 0)
  · rw [if_pos ⟨hj, hc⟩, if_pos hc]
  · rw [if_neg (fun h => hc h.2), if_neg hc]
theorem inc_at (l : List Int) {j : Nat} : ∀ (x y : List Int), (∀ z ∈ x, 0 ≤ z) → x.Nodup → j < y.length → (incL l y x).getD j 0 = y.getD j 0 + if (j : Int) ∈ x then l.getD j 0 else 0 := by
  intro x
  unfold incL
  induction x with
  | nil => intro y _ _ _; simp
  | cons b r ih =>
    intro y h hd hy
    have hb := h b (.head _)
    obtain ⟨hb1, hd⟩ := List.nodup_cons.1 hd
    rw [List.foldl_cons, ih _ (fun z hz => h z (.tail _ hz)) hd (by rw [List.length_set]; exact hy), getD_set]
    by_cases h2 : b.toNat = j
    · have hj : (j : Int) = b := by omega
      rw [if_pos h2, if_pos hy, hj, if_neg hb1, if_pos (.head _), h2]
      omega
    · rw [if_neg h2]
      have : ((j : Int) ∈ b :: r) ↔ (j : Int) ∈ r := ⟨fun h => by
        rcases List.mem_cons.1 h with h | h
        · omega
        · exact h, .tail _⟩
      simp only [this]
theorem bits_nodup (s : Int) : (bitsOf s).Nodup := by
  unfold bitsOf bitsN
  exact List.Pairwise.map _ (fun a b h => by omega) (List.Pairwise.filter _ List.nodup_range')
theorem bits_nn (s : Int) : ∀ y ∈ bitsOf s, 0 ≤ y := by
  intro y hy
  obtain ⟨i, _, rfl⟩ := List.mem_map.1 hy
  omega
theorem yes_at {n : Int} (r : Nat) (l : Int → List Int) {i : Nat} (hi : i < n.toNat) (x : List Int) : (yesL n r l x).getD i 0 = (x.map fun j => if (i : Int) ∈ bitsOf (woN r j : Int) then (l j).getD i 0 else 0).sum := by
  have key : ∀ (x y : List Int), i < y.length → (x.foldl (fun y j => incL (l j) y (bitsOf (woN r j : Int))) y).getD i 0 = y.getD i 0 + (x.map fun j => if (i : Int) ∈ bitsOf (woN r j : Int) then (l j).getD i 0 else 0).sum := by
    intro x
    induction x with
    | nil => intro y _; simp
    | cons b s ih =>
      intro y hy
      rw [List.foldl_cons, ih _ (by rw [inc_len]; exact hy), inc_at _ _ _ (bits_nn _) (bits_nodup _) hy, List.map_cons, List.sum_cons]
      omega
  unfold yesL
  rw [key x _ (by rw [List.length_replicate]; exact hi), getD_rep]
  omega

/-- what 'i' holds of 'j's word, where the last one on a path has the word 'o' -/
def T (a : Ar) (d : Nat) (p : List Int) (o : Int) (j i : Nat) : Int := if j = i then sendsF a p i o else (askF a d (p ++ [(j : Int)]) (sendsF a p j o)).getD i 0
theorem wo_bit (r : Nat) (j : Int) (i : Nat) : (woN r j).testBit i = (r.testBit i && !decide (j.toNat = i)) := by
  unfold woN
  rw [Nat.testBit_xor, Nat.testBit_and, Nat.testBit_two_pow]
  cases r.testBit i <;> cases decide (j.toNat = i) <;> rfl
theorem wo_lt {r : Nat} (hr : r < 128) (j : Int) : woN r j < 128 := Nat.xor_lt_two_pow (n := 7) hr (Nat.lt_of_le_of_lt Nat.and_le_left hr)
theorem mem_bits {r : Nat} (hr : r < 128) (i : Nat) : (i : Int) ∈ bitsOf (r : Int) ↔ r.testBit i = true := by
  rw [bitsOf_mem (by omega)]
  constructor
  · rintro ⟨j, e, h⟩
    have : i = j := by omega
    rw [this]; exact h
  · exact fun h => ⟨i, rfl, h⟩
theorem rest_lt {n : Int} {p : List Int} {i : Nat} (h : (restN n p).testBit i = true) : i < n.toNat := by
  rw [restN_bit] at h
  simp only [Bool.and_eq_true, decide_eq_true_eq] at h
  exact h.1
theorem ask_zero {a : Ar} (h : ArOk a) (p : List Int) (o : Int) {i : Nat} (hi : (restN a.1 p).testBit i = true) : (askF a 0 p o).getD i 0 = sendsF a p i o :=
  got_at a p o (bits_nn _) ((mem_bits (rest_lt64 h.n7 p) i).2 hi) (rest_lt hi)
theorem ask_at {a : Ar} (h : ArOk a) (d : Nat) (p : List Int) (o : Int) {i : Nat} (hi : (restN a.1 p).testBit i = true) :
    (askF a (d + 1) p o).getD i 0 = if (popN (restN a.1 p) : Int) < 2 * S 64 (fun j => if (restN a.1 p).testBit j = true then T a d p o j i else 0) then 1 else 0 := by
  have hr := rest_lt64 h.n7 p
  have hl := rest_lt hi
  have hm := (mem_bits hr i).2 hi
  show (outL _ _ _ _ _).getD i 0 = _
  rw [out_at _ _ _ _ (bits_nn _) hm hl, got_at a p o (bits_nn _) hm hl, yes_at _ _ hl, bits_sum _ hr]
  have e : S 64 (fun j => if (restN a.1 p).testBit j = true then T a d p o j i else 0) =
      S 64 (fun j => if (restN a.1 p).testBit j = true then (if (i : Int) ∈ bitsOf (woN (restN a.1 p) j : Int) then (askF a d (p ++ [(j : Int)]) ((gotL a p o (bitsOf (restN a.1 p : Int))).getD (j : Int).toNat 0)).getD i 0 else 0) else 0) + sendsF a p i o := by
    have hi64 : i < 64 := by have := h.n7; omega
    rw [S_split 64 hi64, if_pos hi]
    have t : T a d p o i i = sendsF a p i o := by unfold T; rw [if_pos rfl]
    rw [t]
    congr 1
    refine S_congr 64 fun j hj => ?_
    by_cases hb : (restN a.1 p).testBit j = true
    · rw [if_pos hb, if_pos hb]
      by_cases hji : j = i
      · subst hji
        rw [if_pos rfl, if_neg fun hc => by
          rw [mem_bits (wo_lt hr _), wo_bit] at hc
          simp at hc]
      · rw [if_neg hji, if_pos ((mem_bits (wo_lt hr _) i).2 (by rw [wo_bit, hi]; simpa using hji))]
        unfold T
        rw [if_neg hji, Int.toNat_natCast, got_at a p o (bits_nn _) ((mem_bits hr j).2 hb) (rest_lt hb)]
    · rw [if_neg hb, if_neg hb]; split <;> rfl
  rw [e]
theorem rest_snoc {n : Int} {p : List Int} {j : Nat} : restN n (p ++ [(j : Int)]) = woN (restN n p) j := by
  apply Nat.eq_of_testBit_eq
  intro i
  rw [wo_bit, restN_bit, restN_bit, onN_snoc, Nat.testBit_or, Nat.testBit_two_pow, Int.toNat_natCast]
  cases decide (i < n.toNat) <;> cases (onN p).testBit i <;> cases decide (j = i) <;> rfl
theorem last_snoc (p : List Int) (y : Int) : lastOf (p ++ [y]) = y := by
  unfold lastOf
  rw [List.getD_eq_getElem?_getD]; simp

/-! counts -/
abbrev Li (a : Ar) (j : Nat) : Prop := bitB a.2.1 (j : Int) = true
/-- how many of them lie -/
def tR (a : Ar) (r : Nat) : Int := S 64 fun j => if r.testBit j = true ∧ Li a j then 1 else 0
theorem pop_wo {r j : Nat} (hr : r < 128) (hj : r.testBit j = true) : (popN (woN r j) : Int) = popN r - 1 := by
  have hj7 : j < 64 := by
    rcases Nat.lt_or_ge j 64 with h | h
    · exact h
    · rw [Nat.testBit_lt_two_pow (Nat.lt_of_lt_of_le (show r < 2 ^ 7 by omega) (Nat.pow_le_pow_right (by decide) (by omega)))] at hj; cases hj
  rw [pop_sum (wo_lt hr _), pop_sum hr, S_split (f := fun i => if r.testBit i = true then 1 else 0) 64 hj7, if_pos hj]
  have : S 64 (fun i => if (woN r j).testBit i = true then (1 : Int) else 0) = S 64 (fun i => if i = j then 0 else if r.testBit i = true then 1 else 0) := S_congr 64 fun i hi => by
    rw [wo_bit, Int.toNat_natCast]
    by_cases h : i = j
    · subst h; simp
    · have : ¬ j = i := fun e => h e.symm
      simp [h, this]
  omega
theorem t_wo (a : Ar) {r j : Nat} (hr : r < 128) (hj : r.testBit j = true) : tR a (woN r j) = tR a r - if Li a j then 1 else 0 := by
  have hj7 : j < 64 := by
    rcases Nat.lt_or_ge j 64 with h | h
    · exact h
    · rw [Nat.testBit_lt_two_pow (Nat.lt_of_lt_of_le (show r < 2 ^ 7 by omega) (Nat.pow_le_pow_right (by decide) (by omega)))] at hj; cases hj
  unfold tR
  rw [S_split (f := fun i => if r.testBit i = true ∧ Li a i then 1 else 0) 64 hj7]
  have : S 64 (fun i => if (woN r j).testBit i = true ∧ Li a i then (1 : Int) else 0) = S 64 (fun i => if i = j then 0 else if r.testBit i = true ∧ Li a i then 1 else 0) := S_congr 64 fun i hi => by
    rw [wo_bit, Int.toNat_natCast]
    by_cases h : i = j
    · subst h; simp
    · have : ¬ j = i := fun e => h e.symm
      simp [h, this]
  rw [this]
  have e : (if r.testBit j = true ∧ Li a j then (1 : Int) else 0) = if Li a j then 1 else 0 := by
    by_cases h : Li a j
    · rw [if_pos ⟨hj, h⟩, if_pos h]
    · rw [if_neg fun x => h x.2, if_neg h]
  rw [e]; omega
theorem t_nn (a : Ar) (r : Nat) : 0 ≤ tR a r := by
  have := S_mono (f := fun _ => 0) (g := fun j => if r.testBit j = true ∧ Li a j then (1 : Int) else 0) 64 fun j _ => by split <;> decide
  rw [S_zero] at this
  exact this
theorem t_pos {a : Ar} {r j : Nat} (hr : r < 128) (hj : r.testBit j = true) (hl : Li a j) : 1 ≤ tR a r := by
  have h1 := t_wo a hr hj
  have h2 := t_nn a (woN r j)
  rw [if_pos hl] at h1
  omega
theorem T_bd {a : Ar} (h : ArOk a) (d : Nat) (p : List Int) {o : Int} (ho : 0 ≤ o ∧ o ≤ 1) (j i : Nat) : 0 ≤ T a d p o j i ∧ T a d p o j i ≤ 1 := by
  unfold T
  split
  · exact sends_bd h ho
  · exact ask_bd h d _ (sends_bd h ho) i
theorem sends_honest {a : Ar} {p : List Int} (hl : ¬ bitB a.2.1 (lastOf p) = true) (i o : Int) : sendsF a p i o = o := by
  unfold sendsF; rw [if_neg hl]

/-- the words that are counted, where the honest ones' are the same -/
theorem maj {a : Ar} {r : Nat} {f : Nat → Int} {o : Int} (hr : r < 128) (ho : 0 ≤ o ∧ o ≤ 1) (hf : ∀ j, r.testBit j = true → 0 ≤ f j ∧ f j ≤ 1) (hh : ∀ j, r.testBit j = true → ¬ Li a j → f j = o)
    (hc : 2 * tR a r < popN r) : (if (popN r : Int) < 2 * S 64 (fun j => if r.testBit j = true then f j else 0) then (1 : Int) else 0) = o := by
  rcases (show o = 0 ∨ o = 1 by omega) with rfl | rfl
  · rw [if_neg]
    have : S 64 (fun j => if r.testBit j = true then f j else 0) ≤ tR a r := S_mono 64 fun j _ => by
      by_cases hb : r.testBit j = true
      · by_cases hl : Li a j
        · rw [if_pos hb, if_pos ⟨hb, hl⟩]; exact (hf j hb).2
        · rw [if_pos hb, if_neg fun x => hl x.2, hh j hb hl]; exact Int.le_refl _
      · rw [if_neg hb, if_neg fun x => hb x.1]; exact Int.le_refl _
    omega
  · rw [if_pos]
    have h1 : S 64 (fun j => if r.testBit j = true then (1 : Int) else 0) ≤ S 64 (fun j => (if r.testBit j = true then f j else 0) + if r.testBit j = true ∧ Li a j then 1 else 0) := S_mono 64 fun j _ => by
      by_cases hb : r.testBit j = true
      · rw [if_pos hb, if_pos hb]
        by_cases hl : Li a j
        · rw [if_pos ⟨hb, hl⟩]; have := (hf j hb).1; omega
        · rw [if_neg fun x => hl x.2, hh j hb hl]; decide
      · rw [if_neg hb, if_neg hb, if_neg fun x => hb x.1]; decide
    rw [S_add, ← pop_sum hr] at h1
    have : tR a r = S 64 (fun j => if r.testBit j = true ∧ Li a j then (1 : Int) else 0) := rfl
    omega

/-- AN HONEST ONE'S WORD GETS THROUGH. -/
theorem valid {a : Ar} (h : ArOk a) : ∀ (d : Nat) (p : List Int) (o : Int), 0 ≤ o ∧ o ≤ 1 → ¬ bitB a.2.1 (lastOf p) = true → (tR a (restN a.1 p) = 0 ∨ 2 * tR a (restN a.1 p) + d ≤ popN (restN a.1 p)) →
    ∀ i, (restN a.1 p).testBit i = true → ¬ Li a i → (askF a d p o).getD i 0 = o := by
  intro d
  induction d with
  | zero =>
    intro p o ho hp _ i hi _
    rw [ask_zero h p o hi]
    exact sends_honest hp _ _
  | succ d ih =>
    intro p o ho hp hc i hi hli
    have hr := rest_lt64 h.n7 p
    rw [ask_at h d p o hi]
    have h1 : (1 : Int) ≤ popN (restN a.1 p) := by
      have := pop_wo hr hi
      omega
    refine maj (a := a) hr ho (fun j hj => T_bd h d p ho j i) (fun j hj hlj => ?_) (by rcases hc with hc | hc <;> omega)
    unfold T
    by_cases hji : j = i
    · rw [if_pos hji]; exact sends_honest hp _ _
    · rw [if_neg hji, sends_honest hp]
      have e1 := pop_wo hr hj
      have e2 := t_wo a hr hj
      rw [if_neg hlj] at e2
      refine ih (p ++ [(j : Int)]) o ho (by rw [last_snoc]; exact hlj) ?_ i ?_ hli
      · rw [rest_snoc, e1, e2]
        rcases hc with hc | hc
        · left; omega
        · right; omega
      · rw [rest_snoc, wo_bit, hi]; simpa using hji

/-- THE HONEST AGREE. -/
theorem agree {a : Ar} (h : ArOk a) : ∀ (d : Nat) (p : List Int) (o : Int), 0 ≤ o ∧ o ≤ 1 → tR a (restN a.1 p) + (if bitB a.2.1 (lastOf p) = true then 1 else 0) ≤ d → 3 * (d : Int) ≤ popN (restN a.1 p) →
    ∀ i i', (restN a.1 p).testBit i = true → (restN a.1 p).testBit i' = true → ¬ Li a i → ¬ Li a i' → (askF a d p o).getD i 0 = (askF a d p o).getD i' 0 := by
  intro d
  induction d with
  | zero =>
    intro p o ho ht hc i i' hi hi' hli hli'
    have := t_nn a (restN a.1 p)
    by_cases hp : bitB a.2.1 (lastOf p) = true
    · rw [if_pos hp] at ht; omega
    · rw [if_neg hp] at ht
      rw [valid h 0 p o ho hp (.inl (by omega)) i hi hli, valid h 0 p o ho hp (.inl (by omega)) i' hi' hli']
  | succ d ih =>
    intro p o ho ht hc i i' hi hi' hli hli'
    have hr := rest_lt64 h.n7 p
    have hn := t_nn a (restN a.1 p)
    by_cases hp : bitB a.2.1 (lastOf p) = true
    · rw [if_pos hp] at ht
      rw [ask_at h d p o hi, ask_at h d p o hi']
      have e : S 64 (fun j => if (restN a.1 p).testBit j = true then T a d p o j i else 0) = S 64 (fun j => if (restN a.1 p).testBit j = true then T a d p o j i' else 0) := S_congr 64 fun j _ => by
        by_cases hj : (restN a.1 p).testBit j = true
        · rw [if_pos hj, if_pos hj]
          have so := sends_bd h (p := p) (i := (j : Int)) ho
          have e1 := pop_wo hr hj
          have e2 := t_wo a hr hj
          have bit : ∀ k, (restN a.1 p).testBit k = true → ¬ j = k → (restN a.1 (p ++ [(j : Int)])).testBit k = true := fun k hk hne => by
            rw [rest_snoc, wo_bit, hk]; simpa using hne
          have va : ¬ Li a j → ∀ k, (restN a.1 p).testBit k = true → ¬ j = k → ¬ Li a k → (askF a d (p ++ [(j : Int)]) (sendsF a p j o)).getD k 0 = sendsF a p j o := fun hlj k hk hne hlk => by
            rw [if_neg hlj] at e2
            refine valid h d _ _ so (by rw [last_snoc]; exact hlj) (.inr ?_) k (bit k hk hne) hlk
            rw [rest_snoc, e1, e2]; omega
          unfold T
          by_cases h1 : j = i
          · subst h1
            rw [if_pos rfl]
            by_cases h2 : j = i'
            · rw [if_pos h2, h2]
            · rw [if_neg h2, va hli i' hi' h2 hli']
          · rw [if_neg h1]
            by_cases h2 : j = i'
            · subst h2
              rw [if_pos rfl, va hli' i hi h1 hli]
            · rw [if_neg h2]
              refine ih (p ++ [(j : Int)]) _ so ?_ ?_ i i' (bit i hi h1) (bit i' hi' h2) hli hli'
              · rw [rest_snoc, e2, last_snoc]
                by_cases hlj : Li a j
                · rw [if_pos hlj]; omega
                · rw [if_neg hlj]; omega
              · rw [rest_snoc, e1]; omega
        · rw [if_neg hj, if_neg hj]
      rw [e]
    · rw [if_neg hp] at ht
      have hv := valid h (d + 1) p o ho hp (.inr (by omega))
      rw [hv i hi hli, hv i' hi' hli']
end Go.Proofs.YtlopkkoenfngiaaDoor

/- Generals: what the reference answers. -/
namespace Go.Proofs.YtlopkkoenfngiaaDoor
open Go.Vc
theorem dest7 {a b c d e f g : Ty} {p : a.D → b.D → c.D → d.D → e.D → f.D → g.D → Prop} {ds : List Dat} (h : apF [a, b, c, d, e, f, g] p False ds) : ∃ x y z u v w r, ds = [⟨a, x⟩, ⟨b, y⟩, ⟨c, z⟩, ⟨d, u⟩, ⟨e, v⟩, ⟨f, w⟩, ⟨g, r⟩] ∧ p x y z u v w r := by
  obtain ⟨x, d1, rfl, h1⟩ := destS h
  obtain ⟨y, z, u, v, w, r, rfl, h2⟩ := dest6 h1
  exact ⟨x, y, z, u, v, w, r, rfl, h2⟩
/-- in between, as the reference says it -/
def inR (n lo hi : Int) : Bool := decide (lo ≤ n) && decide (n ≤ hi)
def cIn : Ctr := cdet [I, I, I] (fun _ _ _ => True) (fun a b c => [⟨.bool, inB a b c⟩])
def cMaskR : Ctr := cdet [I, I] (fun (_ n : Int) => n ≤ 61 ∧ 0 ≤ n) (fun (s n : Int) => [⟨.bool, maskB s n⟩])
def cArmy : Ctr := cdet [I, I, I, I, .sl I] (fun _ _ _ _ _ => True) (fun n deep liars order lies => [⟨I, gErr n deep liars order lies⟩])
def anArmy (l : List Int) : Ann := [joinAll, loopAt 8 Nat [] (fun st i => St.at (St.only st [0, 1, 2, 3, 4, 10]) [(11, .d I (i : Int))]) (fun _ i => i ≤ l.length ∧ ∀ x ∈ l.take i, inB x 0 1 = true) (fun i => l.length - i)]
def onB (p : List Int) (i : Int) : Bool := p.any fun x => decide (x = i)
def cOn : Ctr := cdet [.sl I, I] (fun _ _ => True) (fun (p : List Int) (i : Int) => [⟨.bool, onB p i⟩])
def anOn (p : List Int) (i : Int) : Ann := [loopAt 2 Nat [] (fun st k => St.at (St.only st [0, 1, 4]) [(5, .d I (k : Int))]) (fun _ k => k ≤ p.length ∧ onB (p.take k) i = false) (fun k => p.length - k)]
def cSent : Ctr := cdet [I, I, .sl I, .sl I, I, I] (fun (n liars : Int) (lies p : List Int) (i _ : Int) => SendOk (arOf n liars lies) p i) (fun (n liars : Int) (lies p : List Int) (i o : Int) => [⟨I, sendsF (arOf n liars lies) p i o⟩])
def anSent (n : Int) (p : List Int) (i : Int) : Ann :=
  [loopAt 5 Nat [] (fun st k => St.at (St.only st [0, 1, 2, 3, 4, 5, 12]) [(13, .d I (keyF n (p.take k) i)), (14, .d I (k : Int))]) (fun _ k => k ≤ p.length ∧ True) (fun k => p.length - k)]
/-- whom one leaves out -/
def outB (p : List Int) (i : Int) (j : Nat) : Bool := decide ((j : Int) = i) || onB p (j : Int)
def takesF (a : Ar) : Nat → List Int → Int → Int → Int
  | 0, p, i, o => sendsF a p i o
  | d + 1, p, i, o => if 1 + S a.1.toNat (fun j => if outB p i j = true then 0 else 1) < 2 * (sendsF a p i o + S a.1.toNat fun j => if outB p i j = true then 0 else takesF a d (p ++ [(j : Int)]) i (sendsF a p (j : Int) o)) then 1 else 0
def yesT (a : Ar) (d : Nat) (p : List Int) (i o : Int) (k : Nat) : Int := sendsF a p i o + S k fun j => if outB p i j = true then 0 else takesF a d (p ++ [(j : Int)]) i (sendsF a p (j : Int) o)
def manyT (p : List Int) (i : Int) (k : Nat) : Int := 1 + S k fun j => if outB p i j = true then 0 else 1
structure TakeOk (d : Nat) (a : Ar) (p : List Int) (k i o : Int) : Prop where
  ask : AskOk d a p k o
  to : 0 ≤ i ∧ i < a.1
def cTakes (d : Nat) : Ctr := cdet [I, I, .sl I, .sl I, I, I, I] (fun (n liars : Int) (lies p : List Int) (k i o : Int) => TakeOk d (arOf n liars lies) p k i o) (fun (n liars : Int) (lies p : List Int) (k i o : Int) => [⟨I, takesF (arOf n liars lies) k.toNat p i o⟩])
def anTakes (n liars : Int) (lies p : List Int) (k i o : Int) : Ann :=
  [joinAll, loopAt 7 Nat [] (fun st x => St.at (St.only st [0, 1, 2, 3, 4, 5, 6, 15]) [(14, .d I 0), (16, .d I (yesT (arOf n liars lies) (k.toNat - 1) p i o x)), (17, .d I (manyT p i x)), (18, .d I (x : Int))]) (fun _ x => x ≤ n.toNat ∧ True) (fun x => n.toNat - x)]
end Go.Proofs.YtlopkkoenfngiaaDoor

/- What the functions of this seat have to satisfy, by program: each verification condition in plain words. -/
namespace Go.Proofs.YtlopkkoenfngiaaDoor
open Go.Vc
set_option linter.unusedVariables false
theorem vcIn (a b c : Int) (k : List Dat → Prop) : vcF ⟨En, [], [], [], []⟩ [joinAll] (Tryd.f48.body.getD .skip) Tryd.f48.ntmps [(.tmp 6, .bool)] [⟨I, a⟩, ⟨I, b⟩, ⟨I, c⟩] k = (
  (decide (b ≤ a) = true → k [Dat.mk Ty.bool (decide (a ≤ c))]) ∧ (decide (b ≤ a) = false → k [Dat.mk Ty.bool false])) := by kernel_rfl
theorem vcMaskR (s n : Int) (k : List Dat → Prop) : vcF ⟨En, [(14, cPow2)], glT, [], []⟩ [joinAll] (Tryd.f30.body.getD .skip) Tryd.f30.ntmps [(.tmp 4, .bool)] [⟨I, s⟩, ⟨I, n⟩] k = (
  (decide ((0 : Int) ≤ s) = true → (n ≤ (61 : Int) ∧ True) ∧ k [Dat.mk Ty.bool (decide (s < (2 : Int) ^ n.toNat))]) ∧ (decide ((0 : Int) ≤ s) = false → k [Dat.mk Ty.bool false])) := by kernel_rfl
theorem vcArmy (n deep liars order : Int) (lies : List Int) (k : List Dat → Prop) : vcF ⟨En, [(48, cIn), (30, cMaskR)], glT, [], []⟩ (anArmy lies) (Tryd.f36.body.getD .skip) Tryd.f36.ntmps [(.tmp 10, I)] [⟨I, n⟩, ⟨I, deep⟩, ⟨I, liars⟩, ⟨I, order⟩, ⟨.sl I, lies⟩] k = (
  True ∧ ((!inB n (1 : Int) (7 : Int)) = true → k [Dat.mk (I) (1 : Int)]) ∧ ((!inB n (1 : Int) (7 : Int)) = false → True ∧ ((!inB deep (0 : Int) (2 : Int)) = true → k [Dat.mk (I) (1 : Int)]) ∧ ((!inB deep (0 : Int) (2 : Int)) = false → (n ≤ (61 : Int) ∧ (0 : Int) ≤ n) ∧ ((!maskB liars n) = true → k [Dat.mk (I) (1 : Int)]) ∧ ((!maskB liars n) = false → True ∧ ((!inB order (0 : Int) (1 : Int)) = true → k [Dat.mk (I) (1 : Int)]) ∧ ((!inB order (0 : Int) (1 : Int)) = false → (decide ((↑lies.length : Int) = (0 : Int)) = true → k [Dat.mk (I) (5 : Int)]) ∧ (decide ((↑lies.length : Int) = (0 : Int)) = false → (decide ((24 : Int) < (↑lies.length : Int)) = true → k [Dat.mk (I) (4 : Int)]) ∧ (decide ((24 : Int) < (↑lies.length : Int)) = false → (∃ (x : Nat), (x ≤ lies.length ∧ ∀ (x_1 : Int), x_1 ∈ List.take x lies → inB x_1 (0 : Int) (1 : Int) = true) ∧ (n = n ∧ deep = deep ∧ liars = liars ∧ order = order ∧ lies = lies ∧ (0 : Int) = (0 : Int) ∧ (0 : Int) = (↑x : Int) ∧ True) ∧ True ∧ tabD = tabD ∧ True) ∧ ∀ (x : Nat), (x ≤ lies.length ∧ ∀ (x_1 : Int), x_1 ∈ List.take x lies → inB x_1 (0 : Int) (1 : Int) = true) → (decide ((↑x : Int) < (↑lies.length : Int)) = true → (0 : Int) ≤ (↑x : Int) ∧ (↑x : Int) < (↑lies.length : Int) ∧ True ∧ ((!inB (lies.getD (↑x : Int).toNat (0 : Int)) (0 : Int) (1 : Int)) = true → k [Dat.mk (I) (1 : Int)]) ∧ ((!inB (lies.getD (↑x : Int).toNat (0 : Int)) (0 : Int) (1 : Int)) = false → inK IntKind.i64 ((↑x : Int) + (1 : Int)) ∧ ∃ (x_1 : Nat), (x_1 ≤ lies.length ∧ ∀ (x : Int), x ∈ List.take x_1 lies → inB x (0 : Int) (1 : Int) = true) ∧ lies.length - x_1 < lies.length - x ∧ (n = n ∧ deep = deep ∧ liars = liars ∧ order = order ∧ lies = lies ∧ (0 : Int) = (0 : Int) ∧ (↑x : Int) + (1 : Int) = (↑x_1 : Int) ∧ True) ∧ True ∧ tabD = tabD ∧ True)) ∧ (decide ((↑x : Int) < (↑lies.length : Int)) = false → k [Dat.mk (I) (0 : Int)])))))))) := by kernel_rfl
theorem vcOn (p : List Int) (i : Int) (k : List Dat → Prop) : vcF ⟨En, [], [], [], []⟩ (anOn p i) (Tryd.f53.body.getD .skip) Tryd.f53.ntmps [(.tmp 4, .bool)] [⟨.sl I, p⟩, ⟨I, i⟩] k = (
  (∃ (x : Nat), (x ≤ p.length ∧ onB (List.take x p) i = false) ∧ (p = p ∧ i = i ∧ false = false ∧ (0 : Int) = (↑x : Int) ∧ True) ∧ True ∧ True) ∧ ∀ (x : Nat), x ≤ p.length ∧ onB (List.take x p) i = false → (decide ((↑x : Int) < (↑p.length : Int)) = true → (0 : Int) ≤ (↑x : Int) ∧ (↑x : Int) < (↑p.length : Int) ∧ (decide (p.getD (↑x : Int).toNat (0 : Int) = i) = true → k [Dat.mk Ty.bool true]) ∧ (decide (p.getD (↑x : Int).toNat (0 : Int) = i) = false → inK IntKind.i64 ((↑x : Int) + (1 : Int)) ∧ ∃ (x_1 : Nat), (x_1 ≤ p.length ∧ onB (List.take x_1 p) i = false) ∧ p.length - x_1 < p.length - x ∧ (p = p ∧ i = i ∧ false = false ∧ (↑x : Int) + (1 : Int) = (↑x_1 : Int) ∧ True) ∧ True ∧ True)) ∧ (decide ((↑x : Int) < (↑p.length : Int)) = false → k [Dat.mk Ty.bool false])) := by kernel_rfl
theorem vcSent (n liars : Int) (lies p : List Int) (i o : Int) (k : List Dat → Prop) : vcF ⟨En, [(35, cBit)], glT, [], []⟩ (anSent n p i) (Tryd.f52.body.getD .skip) Tryd.f52.ntmps [(.tmp 12, I)] [⟨I, n⟩, ⟨I, liars⟩, ⟨.sl I, lies⟩, ⟨.sl I, p⟩, ⟨I, i⟩, ⟨I, o⟩] k = (
  inK IntKind.i64 ((↑p.length : Int) - (1 : Int)) ∧ (0 : Int) ≤ (↑p.length : Int) - (1 : Int) ∧ (↑p.length : Int) - (1 : Int) < (↑p.length : Int) ∧ True ∧ ((!bitB liars (p.getD ((↑p.length : Int) - (1 : Int)).toNat (0 : Int))) = true → k [Dat.mk (I) o]) ∧ ((!bitB liars (p.getD ((↑p.length : Int) - (1 : Int)).toNat (0 : Int))) = false → (∃ (x : Nat), (x ≤ p.length ∧ True) ∧ (n = n ∧ liars = liars ∧ lies = lies ∧ p = p ∧ i = i ∧ o = o ∧ (0 : Int) = (0 : Int) ∧ i = keyF n (List.take x p) i ∧ (0 : Int) = (↑x : Int) ∧ True) ∧ True ∧ tabD = tabD ∧ True) ∧ ∀ (x : Nat), x ≤ p.length ∧ True → (decide ((↑x : Int) < (↑p.length : Int)) = true → inK IntKind.i64 (keyF n (List.take x p) i * n) ∧ (0 : Int) ≤ (↑x : Int) ∧ (↑x : Int) < (↑p.length : Int) ∧ inK IntKind.i64 (keyF n (List.take x p) i * n + p.getD (↑x : Int).toNat (0 : Int)) ∧ inK IntKind.i64 ((↑x : Int) + (1 : Int)) ∧ ∃ (x_1 : Nat), (x_1 ≤ p.length ∧ True) ∧ p.length - x_1 < p.length - x ∧ (n = n ∧ liars = liars ∧ lies = lies ∧ p = p ∧ i = i ∧ o = o ∧ (0 : Int) = (0 : Int) ∧ keyF n (List.take x p) i * n + p.getD (↑x : Int).toNat (0 : Int) = keyF n (List.take x_1 p) i ∧ (↑x : Int) + (1 : Int) = (↑x_1 : Int) ∧ True) ∧ True ∧ tabD = tabD ∧ True) ∧ (decide ((↑x : Int) < (↑p.length : Int)) = false → (↑lies.length : Int) ≠ (0 : Int) ∧ inK IntKind.i64 ((keyF n (List.take x p) i).tmod (↑lies.length : Int)) ∧ (0 : Int) ≤ (keyF n (List.take x p) i).tmod (↑lies.length : Int) ∧ (keyF n (List.take x p) i).tmod (↑lies.length : Int) < (↑lies.length : Int) ∧ k [Dat.mk (I) (lies.getD ((keyF n (List.take x p) i).tmod (↑lies.length : Int)).toNat (0 : Int))]))) := by kernel_rfl
theorem vcTakes (d : Nat) (n liars : Int) (lies p : List Int) (dp i o : Int) (k : List Dat → Prop) : vcF ⟨En, [(52, cSent), (53, cOn), (38, cTakes d)], glT, [], []⟩ (anTakes n liars lies p dp i o) (Tryd.f38.body.getD .skip) Tryd.f38.ntmps [(.tmp 14, I)] [⟨I, n⟩, ⟨I, liars⟩, ⟨.sl I, lies⟩, ⟨.sl I, p⟩, ⟨I, dp⟩, ⟨I, i⟩, ⟨I, o⟩] k = (
  SendOk (arOf n liars lies) p i ∧ (decide (dp = (0 : Int)) = true → k [Dat.mk (I) (sendsF (arOf n liars lies) p i o)]) ∧ (decide (dp = (0 : Int)) = false → (∃ (x : Nat), (x ≤ n.toNat ∧ True) ∧ (n = n ∧ liars = liars ∧ lies = lies ∧ p = p ∧ dp = dp ∧ i = i ∧ o = o ∧ (0 : Int) = (0 : I.D) ∧ sendsF (arOf n liars lies) p i o = sendsF (arOf n liars lies) p i o ∧ sendsF (arOf n liars lies) p i o = yesT (arOf n liars lies) (dp.toNat - (1 : Nat)) p i o x ∧ (1 : Int) = manyT p i x ∧ (0 : Int) = (↑x : Int) ∧ True) ∧ True ∧ tabD = tabD ∧ True) ∧ ∀ (x : Nat), x ≤ n.toNat ∧ True → (decide ((↑x : Int) < n) = true → (decide ((↑x : Int) = i) = true → inK IntKind.i64 ((↑x : Int) + (1 : Int)) ∧ ∃ (x_1 : Nat), (x_1 ≤ n.toNat ∧ True) ∧ n.toNat - x_1 < n.toNat - x ∧ (n = n ∧ liars = liars ∧ lies = lies ∧ p = p ∧ dp = dp ∧ i = i ∧ o = o ∧ (0 : I.D) = (0 : I.D) ∧ sendsF (arOf n liars lies) p i o = sendsF (arOf n liars lies) p i o ∧ yesT (arOf n liars lies) (dp.toNat - (1 : Nat)) p i o x = yesT (arOf n liars lies) (dp.toNat - (1 : Nat)) p i o x_1 ∧ manyT p i x = manyT p i x_1 ∧ (↑x : Int) + (1 : Int) = (↑x_1 : Int) ∧ True) ∧ True ∧ tabD = tabD ∧ True) ∧ (decide ((↑x : Int) = i) = false → True ∧ (onB p (↑x : Int) = true → inK IntKind.i64 ((↑x : Int) + (1 : Int)) ∧ ∃ (x_1 : Nat), (x_1 ≤ n.toNat ∧ True) ∧ n.toNat - x_1 < n.toNat - x ∧ (n = n ∧ liars = liars ∧ lies = lies ∧ p = p ∧ dp = dp ∧ i = i ∧ o = o ∧ (0 : I.D) = (0 : I.D) ∧ sendsF (arOf n liars lies) p i o = sendsF (arOf n liars lies) p i o ∧ yesT (arOf n liars lies) (dp.toNat - (1 : Nat)) p i o x = yesT (arOf n liars lies) (dp.toNat - (1 : Nat)) p i o x_1 ∧ manyT p i x = manyT p i x_1 ∧ (↑x : Int) + (1 : Int) = (↑x_1 : Int) ∧ True) ∧ True ∧ tabD = tabD ∧ True) ∧ (onB p (↑x : Int) = false → p.length ≤ (1000000000 : Nat) ∧ p.length + ((List.replicate (1 : Nat) (0 : Int)).set (0 : Nat) (↑x : Int)).length ≤ (1000000000 : Nat) ∧ inK IntKind.i64 (dp - (1 : Int)) ∧ SendOk (arOf n liars lies) p (↑x : Int) ∧ TakeOk d (arOf n liars lies) (p.append ((List.replicate (1 : Nat) (0 : Int)).set (0 : Nat) (↑x : Int))) (dp - (1 : Int)) i (sendsF (arOf n liars lies) p (↑x : Int) o) ∧ inK IntKind.i64 (yesT (arOf n liars lies) (dp.toNat - (1 : Nat)) p i o x + takesF (arOf n liars lies) (dp - (1 : Int)).toNat (p.append ((List.replicate (1 : Nat) (0 : Int)).set (0 : Nat) (↑x : Int))) i (sendsF (arOf n liars lies) p (↑x : Int) o)) ∧ inK IntKind.i64 (manyT p i x + (1 : Int)) ∧ inK IntKind.i64 ((↑x : Int) + (1 : Int)) ∧ ∃ (x_1 : Nat), (x_1 ≤ n.toNat ∧ True) ∧ n.toNat - x_1 < n.toNat - x ∧ (n = n ∧ liars = liars ∧ lies = lies ∧ p = p ∧ dp = dp ∧ i = i ∧ o = o ∧ (0 : I.D) = (0 : I.D) ∧ sendsF (arOf n liars lies) p i o = sendsF (arOf n liars lies) p i o ∧ yesT (arOf n liars lies) (dp.toNat - (1 : Nat)) p i o x + takesF (arOf n liars lies) (dp - (1 : Int)).toNat (p.append ((List.replicate (1 : Nat) (0 : Int)).set (0 : Nat) (↑x : Int))) i (sendsF (arOf n liars lies) p (↑x : Int) o) = yesT (arOf n liars lies) (dp.toNat - (1 : Nat)) p i o x_1 ∧ manyT p i x + (1 : Int) = manyT p i x_1 ∧ (↑x : Int) + (1 : Int) = (↑x_1 : Int) ∧ True) ∧ True ∧ tabD = tabD ∧ True))) ∧ (decide ((↑x : Int) < n) = false → inK IntKind.i64 ((2 : Int) * yesT (arOf n liars lies) (dp.toNat - (1 : Nat)) p i o x) ∧ (decide (manyT p i x < (2 : Int) * yesT (arOf n liars lies) (dp.toNat - (1 : Nat)) p i o x) = true → k [Dat.mk (I) (1 : Int)]) ∧ (decide (manyT p i x < (2 : Int) * yesT (arOf n liars lies) (dp.toNat - (1 : Nat)) p i o x) = false → k [Dat.mk (I) (0 : Int)])))) := by kernel_rfl
end Go.Proofs.YtlopkkoenfngiaaDoor

/- Generals: the reference's walks. -/
namespace Go.Proofs.YtlopkkoenfngiaaDoor
open Go.Vc
theorem in_vc (a b c : Int) (k : List Dat → Prop) (hk : k [⟨.bool, inB a b c⟩]) : vcF ⟨En, [], [], [], []⟩ [joinAll] (Tryd.f48.body.getD .skip) Tryd.f48.ntmps [(.tmp 6, .bool)] [⟨I, a⟩, ⟨I, b⟩, ⟨I, c⟩] k := by
  rw [vcIn]
  unfold inB at hk
  refine ⟨fun h => ?_, fun h => ?_⟩
  · rw [h] at hk; exact hk
  · rw [h] at hk; exact hk
theorem okIn : PlainOk Tryd.prog [] 48 cIn := by
  refine plain_of (CxOk.mk' En_ok rfl mixed (gl := []) GOk.nil GoOk.nil noIt) Tryd.func48 (c := Tryd.f48.body.getD .skip) (rvs := [(.tmp 6, .bool)]) (by kernel_rfl) (by kernel_rfl) (by kernel_rfl) ?_
  intro ds k ⟨hp, hk⟩ hwf
  obtain ⟨a, b, c, rfl, -⟩ := dest3 hp
  exact ⟨[joinAll], in_vc a b c k hk⟩
theorem maskR_vc (s n : Int) (k : List Dat → Prop) (hn : n ≤ 61) (hk : k [⟨.bool, maskB s n⟩]) : vcF ⟨En, [(14, cPow2)], glT, [], []⟩ [joinAll] (Tryd.f30.body.getD .skip) Tryd.f30.ntmps [(.tmp 4, .bool)] [⟨I, s⟩, ⟨I, n⟩] k := by
  rw [vcMaskR]
  unfold maskB at hk
  refine ⟨fun h => ⟨⟨hn, trivial⟩, ?_⟩, fun h => ?_⟩
  · rw [h] at hk; exact hk
  · rw [h] at hk; exact hk
theorem okMaskR : PlainOk Tryd.prog glT 30 cMaskR := by
  refine plain_of (CxOk.mk' En_ok rfl mixed (gl := glT) (GOk.cons okPow2 Tryd.func14 (by kernel_rfl) (by kernel_rfl) GOk.nil) GoOk.nil noIt) Tryd.func30 (c := Tryd.f30.body.getD .skip) (rvs := [(.tmp 4, .bool)]) (by kernel_rfl) (by kernel_rfl) (by kernel_rfl) ?_
  intro ds k ⟨hp, hk⟩ hwf
  obtain ⟨a, b, rfl, hn, -⟩ := dest2 hp
  exact ⟨[joinAll], maskR_vc a b k hn hk⟩
theorem army_vc (n deep liars order : Int) (lies : List Int) (k : List Dat → Prop) (hk : k [⟨I, gErr n deep liars order lies⟩]) :
    vcF ⟨En, [(48, cIn), (30, cMaskR)], glT, [], []⟩ (anArmy lies) (Tryd.f36.body.getD .skip) Tryd.f36.ntmps [(.tmp 10, I)] [⟨I, n⟩, ⟨I, deep⟩, ⟨I, liars⟩, ⟨I, order⟩, ⟨.sl I, lies⟩] k := by
  rw [vcArmy]
  simp only [Bool.not_eq_true', Bool.not_eq_false', and_true, true_and]
  unfold gErr at hk
  refine ⟨fun h1 => ?_, fun h1 => ⟨fun h2 => ?_, fun h2 => ⟨by have := inB_of h1; omega, fun h3 => ?_, fun h3 => ⟨fun h4 => ?_, fun h4 => ⟨fun h5 => ?_, fun h5 => ⟨fun h6 => ?_, fun h6 => ⟨⟨0, ⟨by omega, by simp⟩, rfl⟩, fun x ⟨hx, hall⟩ => ⟨fun h7 => ⟨by omega, ?_⟩, fun h7 => ?_⟩⟩⟩⟩⟩⟩⟩⟩
  · rw [if_pos (.inl h1)] at hk; exact hk
  · rw [if_pos (.inr (.inl h2))] at hk; exact hk
  · rw [if_pos (.inr (.inr (.inl h3)))] at hk; exact hk
  · rw [if_pos (.inr (.inr (.inr h4)))] at hk; exact hk
  all_goals
    rw [if_neg (by simp [h1, h2, h3, h4])] at hk
  · have : lies.length = 0 := by have := of_decide_eq_true h5; omega
    rw [if_pos this] at hk; exact hk
  all_goals
    have h5 := of_decide_eq_false h5
    rw [if_neg (by omega)] at hk
  · have : 24 < lies.length := by have := of_decide_eq_true h6; omega
    rw [if_pos this] at hk; exact hk
  all_goals
    have h6 := of_decide_eq_false h6
    rw [if_neg (by omega)] at hk
  · have h7 := of_decide_eq_true h7
    have hl : x < lies.length := by omega
    rw [Int.toNat_natCast]
    refine ⟨by omega, fun h8 => ?_, fun h8 => ⟨inK_i64.2 (by omega), x + 1, ⟨by omega, fun y hy => ?_⟩, by omega, by omega⟩⟩
    · have : ¬ (lies.all fun x => inB x 0 1) = true := fun h => by
        have := List.all_eq_true.1 h _ (getD_mem hl)
        rw [h8] at this; cases this
      rw [if_neg this] at hk; exact hk
    · rw [take_snoc hl] at hy
      rcases List.mem_append.1 hy with hy | hy
      · exact hall y hy
      · rw [List.mem_singleton.1 hy]; exact h8
  · have h7 := of_decide_eq_false h7
    have hl : x = lies.length := by omega
    rw [hl, List.take_length] at hall
    rw [if_pos (List.all_eq_true.2 hall)] at hk; exact hk
theorem okArmy : PlainOk Tryd.prog glT 36 cArmy := by
  refine plain_of (CxOk.mk' En_ok rfl mixed (gl := glT) (GOk.cons okIn.lift Tryd.func48 (by kernel_rfl) (by kernel_rfl) (GOk.cons okMaskR Tryd.func30 (by kernel_rfl) (by kernel_rfl) GOk.nil)) GoOk.nil noIt) Tryd.func36 (c := Tryd.f36.body.getD .skip) (rvs := [(.tmp 10, I)]) (by kernel_rfl) (by kernel_rfl) (by kernel_rfl) ?_
  intro ds k ⟨hp, hk⟩ hwf
  obtain ⟨n, d, l, o, x, rfl, -⟩ := dest5 hp
  exact ⟨anArmy x, army_vc n d l o x k hk⟩
theorem on_snoc (p : List Int) (y i : Int) : onB (p ++ [y]) i = (onB p i || decide (y = i)) := by unfold onB; simp
theorem on_vc (p : List Int) (i : Int) (k : List Dat → Prop) (hm : p.length ≤ maxLen) (hk : k [⟨.bool, onB p i⟩]) : vcF ⟨En, [], [], [], []⟩ (anOn p i) (Tryd.f53.body.getD .skip) Tryd.f53.ntmps [(.tmp 4, .bool)] [⟨.sl I, p⟩, ⟨I, i⟩] k := by
  rw [vcOn]
  simp only [and_true, true_and, eq_self]
  have hm' := hm
  simp only [maxLen] at hm'
  refine ⟨⟨0, ⟨by omega, rfl⟩, rfl⟩, fun x ⟨hx, hn⟩ => ⟨fun h1 => ?_, fun h1 => ?_⟩⟩
  · have hl : x < p.length := by have := of_decide_eq_true h1; omega
    rw [Int.toNat_natCast]
    refine ⟨by omega, by omega, fun h2 => ?_, fun h2 => ⟨inK_i64.2 (by omega), x + 1, ⟨by omega, ?_⟩, by omega, by omega⟩⟩
    · have : onB p i = true := List.any_eq_true.2 ⟨_, getD_mem hl, h2⟩
      rw [this] at hk; exact hk
    · rw [take_snoc hl, on_snoc, hn, h2]; rfl
  · have hl : x = p.length := by have := of_decide_eq_false h1; omega
    rw [hl, List.take_length] at hn
    rw [hn] at hk; exact hk
theorem okOn : PlainOk Tryd.prog [] 53 cOn := by
  refine plain_of (CxOk.mk' En_ok rfl mixed (gl := []) GOk.nil GoOk.nil noIt) Tryd.func53 (c := Tryd.f53.body.getD .skip) (rvs := [(.tmp 4, .bool)]) (by kernel_rfl) (by kernel_rfl) (by kernel_rfl) ?_
  intro ds k ⟨hp, hk⟩ hwf
  obtain ⟨a, b, rfl, -⟩ := dest2 hp
  exact ⟨anOn a b, on_vc a b k (hwf _ (.head _)).1 hk⟩
theorem sent_vc (n liars : Int) (lies p : List Int) (i o : Int) (k : List Dat → Prop) (hs : SendOk (arOf n liars lies) p i) (hk : k [⟨I, sendsF (arOf n liars lies) p i o⟩]) :
    vcF ⟨En, [(35, cBit)], glT, [], []⟩ (anSent n p i) (Tryd.f52.body.getD .skip) Tryd.f52.ntmps [(.tmp 12, I)] [⟨I, n⟩, ⟨I, liars⟩, ⟨.sl I, lies⟩, ⟨.sl I, p⟩, ⟨I, i⟩, ⟨I, o⟩] k := by
  rw [vcSent]
  have hn : n ≤ 7 := hs.ar.n7
  have hn1 : 1 ≤ n := hs.ar.n1
  have hp3 := hs.pa.le
  have hp0 := hs.pa.ne
  have hto : 0 ≤ i ∧ i < n := hs.to
  have el : ∀ y ∈ p, 0 ≤ y ∧ y < 7 := fun y hy => by have : 0 ≤ y ∧ y < n := hs.pa.el y hy; omega
  have hlast : ((p.length : Int) - 1).toNat = p.length - 1 := by omega
  simp only [and_true, true_and, eq_self]
  refine ⟨inK_i64.2 (by omega), by omega, by omega, fun h => ?_, fun h => ⟨⟨0, by omega, rfl, rfl⟩, fun x hx => ⟨fun h1 => ?_, fun h1 => ?_⟩⟩⟩
  · rw [hlast] at h
    have : sendsF (arOf n liars lies) p i o = o := by
      unfold sendsF lastOf
      rw [if_neg (by simpa [arOf] using h)]
    rw [this] at hk; exact hk
  · have hxl : x < p.length := by have := of_decide_eq_true h1; omega
    have hb := key_bd (n := n) (i := i) (by omega) (by omega) (p.take x) (by rw [List.length_take]; omega) (fun y hy => el y (List.mem_of_mem_take hy))
    have hy := el _ (getD_mem hxl)
    have st := key_step (n := n) (by omega) hb hy
    have st0 := key_step (n := n) (y := 0) (by omega) hb (by decide)
    refine ⟨inK_i64.2 (by omega), by omega, by omega, inK_i64.2 ?_, inK_i64.2 (by omega), x + 1, by omega, by omega, ?_, by omega⟩
    · rw [Int.toNat_natCast]; omega
    · rw [key_succ hxl, Int.toNat_natCast]
  · have hxl : x = p.length := by have := of_decide_eq_false h1; omega
    subst hxl
    rw [List.take_length]
    have hb := key_bd (n := n) (i := i) (by omega) (by omega) p (by omega) el
    have hl : 0 < lies.length := hs.ar.ne
    have hl2 : lies.length ≤ 24 := hs.ar.le
    have m1 := Int.tmod_lt_of_pos (keyF n p i) (show (0 : Int) < (lies.length : Int) by omega)
    have m2 := Int.tmod_nonneg (lies.length : Int) hb.1
    refine ⟨by omega, inK_i64.2 (by omega), m2, m1, ?_⟩
    rw [hlast] at h
    have : sendsF (arOf n liars lies) p i o = List.getD lies ((keyF n p i).tmod (lies.length : Int)).toNat 0 := by
      unfold sendsF lastOf
      rw [if_pos (by simpa [arOf] using h)]
      rfl
    rw [this] at hk; exact hk
theorem okSent : PlainOk Tryd.prog glT 52 cSent := by
  refine plain_of (CxOk.mk' En_ok rfl mixed (gl := glT) (GOk.cons okBit Tryd.func35 (by kernel_rfl) (by kernel_rfl) GOk.nil) GoOk.nil noIt) Tryd.func52 (c := Tryd.f52.body.getD .skip) (rvs := [(.tmp 12, I)]) (by kernel_rfl) (by kernel_rfl) (by kernel_rfl) ?_
  intro ds k ⟨hp, hk⟩ hwf
  obtain ⟨n, l, x, p, i, o, rfl, hs⟩ := dest6 hp
  exact ⟨anSent n p i, sent_vc n l x p i o k hs hk⟩

theorem takes_bd {a : Ar} (h : ArOk a) : ∀ (d : Nat) (p : List Int) (i : Int) {o : Int}, 0 ≤ o ∧ o ≤ 1 → 0 ≤ takesF a d p i o ∧ takesF a d p i o ≤ 1 := by
  intro d p i o ho
  cases d with
  | zero => exact sends_bd h ho
  | succ d => unfold takesF; split <;> decide
theorem out_iff (p : List Int) (i : Int) (j : Nat) : outB p i j = true ↔ ((j : Int) = i ∨ onB p (j : Int) = true) := by
  unfold outB; simp
theorem takes_vc (d : Nat) (n liars : Int) (lies p : List Int) (dp i o : Int) (k : List Dat → Prop) (h : TakeOk (d + 1) (arOf n liars lies) p dp i o) (hk : k [⟨I, takesF (arOf n liars lies) dp.toNat p i o⟩]) :
    vcF ⟨En, [(52, cSent), (53, cOn), (38, cTakes d)], glT, [], []⟩ (anTakes n liars lies p dp i o) (Tryd.f38.body.getD .skip) Tryd.f38.ntmps [(.tmp 14, I)] [⟨I, n⟩, ⟨I, liars⟩, ⟨.sl I, lies⟩, ⟨.sl I, p⟩, ⟨I, dp⟩, ⟨I, i⟩, ⟨I, o⟩] k := by
  rw [vcTakes]
  have hn : n ≤ 7 := h.ask.ar.n7
  have hn1 : 1 ≤ n := h.ask.ar.n1
  have hto : 0 ≤ i ∧ i < n := h.to
  have hp3 := h.ask.pa.le
  have hp0 := h.ask.pa.ne
  have hod := h.ask.od
  have hk0 := h.ask.k0
  have hkd := h.ask.kd
  have hk3 := h.ask.k3
  have har := h.ask.ar
  simp only [and_true, true_and, eq_self, set1, List.append_eq]
  refine ⟨⟨har, h.ask.pa, hto⟩, fun h0 => ?_, fun h0 => ?_⟩
  · have : dp = 0 := of_decide_eq_true h0
    subst this
    exact hk
  have h0 := of_decide_eq_false h0
  obtain ⟨e, he⟩ : ∃ e : Nat, dp = (e : Int) + 1 := ⟨dp.toNat - 1, by omega⟩
  subst he
  have e1 : ((e : Int) + 1).toNat = e + 1 := by omega
  have e2 : ((e : Int) + 1 - 1).toNat = e := by omega
  rw [e1] at hk
  simp only [e1, e2, Nat.add_sub_cancel]
  have tb : ∀ j : Nat, 0 ≤ takesF (arOf n liars lies) e (p ++ [(j : Int)]) i (sendsF (arOf n liars lies) p (j : Int) o) ∧ takesF (arOf n liars lies) e (p ++ [(j : Int)]) i (sendsF (arOf n liars lies) p (j : Int) o) ≤ 1 := fun j => takes_bd har _ _ _ (sends_bd har hod)
  have sb := sends_bd har (p := p) (i := i) hod
  have one : ∀ k, S k (fun _ => (1 : Int)) = k := fun k => by
    induction k with
    | zero => rfl
    | succ k ih => rw [S_succ, ih]; omega
  have yb : ∀ k, 0 ≤ yesT (arOf n liars lies) e p i o k ∧ yesT (arOf n liars lies) e p i o k ≤ 1 + k := fun k => by
    unfold yesT
    have a1 := S_mono (f := fun _ => 0) (g := fun j => if outB p i j = true then 0 else takesF (arOf n liars lies) e (p ++ [(j : Int)]) i (sendsF (arOf n liars lies) p (j : Int) o)) k fun j _ => by
      split
      · exact Int.le_refl _
      · exact (tb j).1
    have a2 := S_mono (f := fun j => if outB p i j = true then 0 else takesF (arOf n liars lies) e (p ++ [(j : Int)]) i (sendsF (arOf n liars lies) p (j : Int) o)) (g := fun _ => 1) k fun j _ => by
      split
      · decide
      · exact (tb j).2
    rw [S_zero] at a1; rw [one] at a2
    omega
  have mb : ∀ k, manyT p i k ≤ 1 + k ∧ 1 ≤ manyT p i k := fun k => by
    unfold manyT
    have a1 := S_mono (f := fun _ => 0) (g := fun j => if outB p i j = true then (0 : Int) else 1) k fun j _ => by split <;> decide
    have a2 := S_mono (f := fun j => if outB p i j = true then (0 : Int) else 1) (g := fun _ => 1) k fun j _ => by split <;> decide
    rw [S_zero] at a1; rw [one] at a2
    omega
  have yo : ∀ x, outB p i x = true → yesT (arOf n liars lies) e p i o (x + 1) = yesT (arOf n liars lies) e p i o x := fun x hx => by
    unfold yesT; rw [S_succ, if_pos hx]; omega
  have mo : ∀ x, outB p i x = true → manyT p i (x + 1) = manyT p i x := fun x hx => by
    unfold manyT; rw [S_succ, if_pos hx]; omega
  refine ⟨⟨0, by omega, ?_, rfl, rfl⟩, fun x hx => ⟨fun h1 => ?_, fun h1 => ?_⟩⟩
  · unfold yesT S; simp
  · have h1 := of_decide_eq_true h1
    have ybx := yb x
    have mbx := mb x
    refine ⟨fun h2 => ?_, fun h2 => ⟨fun h3 => ?_, fun h3 => ?_⟩⟩
    · have ho := (out_iff p i x).2 (.inl (of_decide_eq_true h2))
      exact ⟨inK_i64.2 (by omega), x + 1, by omega, by omega, (yo x ho).symm, (mo x ho).symm, by omega⟩
    · have ho := (out_iff p i x).2 (.inr h3)
      exact ⟨inK_i64.2 (by omega), x + 1, by omega, by omega, (yo x ho).symm, (mo x ho).symm, by omega⟩
    · have h2 := of_decide_eq_false h2
      have ho : ¬ outB p i x = true := fun hh => by
        rcases (out_iff p i x).1 hh with hh | hh
        · exact h2 hh
        · rw [h3] at hh; cases hh
      have tx := tb x
      refine ⟨by omega, by simp; omega, inK_i64.2 (by omega), ⟨har, h.ask.pa, ⟨by omega, h1⟩⟩, ⟨⟨har, pa_snoc h.ask.pa ⟨by omega, h1⟩ (by omega), sends_bd har hod, by omega, by omega, by simp; omega⟩, hto⟩, inK_i64.2 (by omega), inK_i64.2 (by omega), inK_i64.2 (by omega), x + 1, by omega, by omega, ?_, ?_, by omega⟩
      · unfold yesT; rw [S_succ, if_neg ho]; omega
      · unfold manyT; rw [S_succ, if_neg ho]; omega
  · have h1 := of_decide_eq_false h1
    have hxe : x = n.toNat := by omega
    subst hxe
    have ybx := yb n.toNat
    refine ⟨inK_i64.2 (by omega), fun h2 => ?_, fun h2 => ?_⟩
    · have : takesF (arOf n liars lies) (e + 1) p i o = 1 := if_pos (of_decide_eq_true h2)
      rw [this] at hk; exact hk
    · have : takesF (arOf n liars lies) (e + 1) p i o = 0 := if_neg (of_decide_eq_false h2)
      rw [this] at hk; exact hk
theorem okTakes : ∀ d, PlainOk Tryd.prog glT 38 (cTakes d)
  | 0 => by
    intro ds k ⟨hp, hk⟩
    obtain ⟨n, l, x, p, dp, i, o, rfl, hs⟩ := dest7 hp
    have := hs.ask.k0
    have := hs.ask.kd
    omega
  | d + 1 => by
    refine plain_of (CxOk.mk' En_ok rfl mixed (gl := glT) (GOk.cons okSent Tryd.func52 (by kernel_rfl) (by kernel_rfl) (GOk.cons okOn.lift Tryd.func53 (by kernel_rfl) (by kernel_rfl) (GOk.cons (okTakes d) Tryd.func38 (by kernel_rfl) (by kernel_rfl) GOk.nil))) GoOk.nil noIt) Tryd.func38 (c := Tryd.f38.body.getD .skip) (rvs := [(.tmp 14, I)]) (by kernel_rfl) (by kernel_rfl) (by kernel_rfl) ?_
    intro ds k ⟨hp, hk⟩ hwf
    obtain ⟨n, l, x, p, dp, i, o, rfl, hs⟩ := dest7 hp
    exact ⟨anTakes n l x p dp i o, takes_vc d n l x p dp i o k hs hk⟩

/-- THE REFERENCE TAKES WHAT THE PROGRAM'S ASKING ANSWERS. -/
theorem ask_takes {a : Ar} (h : ArOk a) : ∀ (d : Nat) (p : List Int) (o : Int) (i : Nat), (∀ y ∈ p, 0 ≤ y) → (restN a.1 p).testBit i = true → (askF a d p o).getD i 0 = takesF a d p (i : Int) o := by
  intro d
  induction d with
  | zero => intro p o i _ hi; exact ask_zero h p o hi
  | succ d ih =>
    intro p o i hp hi
    have hr := rest_lt64 h.n7 p
    have hn := h.n7
    have hil := rest_lt hi
    rw [ask_at h d p o hi, pop_sum hr]
    have on_eq : ∀ j : Nat, onB p (j : Int) = (onN p).testBit j := fun j => by
      have e := onN_bit p j
      cases hb : (onN p).testBit j with
      | true =>
        obtain ⟨y, hy, e2⟩ := e.1 hb
        have := hp y hy
        exact List.any_eq_true.2 ⟨y, hy, decide_eq_true (by omega)⟩
      | false =>
        cases ho : onB p (j : Int) with
        | false => rfl
        | true =>
          obtain ⟨y, hy, e2⟩ := List.any_eq_true.1 ho
          have e2 := of_decide_eq_true e2
          have : (onN p).testBit j = true := e.2 ⟨y, hy, by omega⟩
          rw [hb] at this; cases this
    have bit : ∀ j : Nat, (restN a.1 p).testBit j = true ↔ j < a.1.toNat ∧ onB p (j : Int) = false := fun j => by
      rw [restN_bit, on_eq]; simp
    have stop : ∀ f : Nat → Int, S 64 (fun j => if (restN a.1 p).testBit j = true then f j else 0) = S a.1.toNat (fun j => if (restN a.1 p).testBit j = true then f j else 0) := fun f => by
      have := S_stop (f := fun j => if (restN a.1 p).testBit j = true then f j else 0) (m := a.1.toNat) (64 - a.1.toNat) fun j hj => by
        rw [if_neg]; intro hb; have := ((bit j).1 hb).1; omega
      rw [show a.1.toNat + (64 - a.1.toNat) = 64 by omega] at this
      exact this
    rw [stop, stop, S_split (j := i) a.1.toNat hil, S_split (f := fun j => if (restN a.1 p).testBit j = true then T a d p o j i else 0) (j := i) a.1.toNat hil, if_pos hi, if_pos hi]
    have c1 : S a.1.toNat (fun j => if j = i then 0 else if (restN a.1 p).testBit j = true then (1 : Int) else 0) = S a.1.toNat (fun j => if outB p (i : Int) j = true then 0 else 1) := S_congr _ fun j hj => by
      by_cases hji : j = i
      · rw [if_pos hji, if_pos ((out_iff p i j).2 (.inl (by omega)))]
      · rw [if_neg hji]
        by_cases hb : (restN a.1 p).testBit j = true
        · rw [if_pos hb, if_neg]
          intro hh
          rcases (out_iff p i j).1 hh with hh | hh
          · omega
          · rw [((bit j).1 hb).2] at hh; cases hh
        · rw [if_neg hb, if_pos]
          refine (out_iff p i j).2 (.inr ?_)
          cases ho : onB p (j : Int) with
          | true => rfl
          | false => exact absurd ((bit j).2 ⟨hj, ho⟩) hb
    have c2 : S a.1.toNat (fun j => if j = i then 0 else if (restN a.1 p).testBit j = true then T a d p o j i else 0) = S a.1.toNat (fun j => if outB p (i : Int) j = true then 0 else takesF a d (p ++ [(j : Int)]) (i : Int) (sendsF a p (j : Int) o)) := S_congr _ fun j hj => by
      by_cases hji : j = i
      · rw [if_pos hji, if_pos ((out_iff p i j).2 (.inl (by omega)))]
      · rw [if_neg hji]
        by_cases hb : (restN a.1 p).testBit j = true
        · rw [if_pos hb, if_neg]
          · unfold T
            rw [if_neg hji]
            refine ih _ _ i (fun y hy => ?_) ?_
            · rcases List.mem_append.1 hy with hy | hy
              · exact hp y hy
              · rw [List.mem_singleton.1 hy]; omega
            · rw [rest_snoc, wo_bit, hi]; simpa using hji
          · intro hh
            rcases (out_iff p i j).1 hh with hh | hh
            · omega
            · rw [((bit j).1 hb).2] at hh; cases hh
        · rw [if_neg hb, if_pos]
          refine (out_iff p i j).2 (.inr ?_)
          cases ho : onB p (j : Int) with
          | true => rfl
          | false => exact absurd ((bit j).2 ⟨hj, ho⟩) hb
    have t : T a d p o i i = sendsF a p i o := by unfold T; rw [if_pos rfl]
    rw [c1, c2, t]
    have r1 : ∀ x y : Int, (if x + 1 < 2 * (y + sendsF a p i o) then (1 : Int) else 0) = if 1 + x < 2 * (sendsF a p i o + y) then 1 else 0 := fun x y => by
      rw [Int.add_comm x 1, Int.add_comm y]
    rw [r1]
    rfl
end Go.Proofs.YtlopkkoenfngiaaDoor

namespace Go.Proofs.YtlopkkoenfngiaaDoor
open Go.RowKit Go.Extern.Stop Go.Stop Go.Extern

/-- errors.As(nil, target). -/
theorem as_nil (t : Value) (w : World) :
    Calls Tryd.prog 60 #[.nilIface, t] w fun e w' => e = .returned (.bool false) ∧ w' = w := by
  go_enter Tryd.func60, Tryd.ntmps60
  go_wp2
  go_ret
  exact ⟨rfl, rfl⟩

/-! ### CLOSED FACTS ON THE MODEL's ENTRIES FOR internal/reflectlite, at this program's types: 25: *p.E · 27: **p.E · 23: error · 45: reflectlite's rtype · 1: how many package-level variables the dump has -/
theorem Tas.valueOf27 (t : Addr) (w : World) : (ReflectliteValue.unpack (.iface 75 (.pointer (some t)))).run Tryd.prog w
    = .ok (.agg #[.pointer (some ⟨3, 75, none⟩), .pointer (some ⟨w.heap.size, 0, none⟩), .int .u64 150]) (w.alloc (.cells #[.pointer (some t)] 75)) := by kernel_rfl
theorem Tas.type27 (a : Addr) (w : World) : (ReflectliteValue.methodAny (ReflectliteValue.valueError "reflectlite.Value.Type" 0) (fun t _ _ _ => ReflectliteType.toType t) #[.agg #[.pointer (some ⟨3, 75, none⟩), .pointer (some a), .int .u64 150]]).run Tryd.prog w
    = .ok (.iface 96 (.agg #[.pointer (some ⟨3, 75, none⟩)])) w := by kernel_rfl
theorem Tas.methodKind (h : Value) (w : World) : (Go.method 238 96 (.agg #[h]) "Kind").run Tryd.prog w = .ok (88, h) w := by kernel_rfl
theorem Tas.kind27 (w : World) : ((ReflectliteType.abiMethod fun t => (fun a : Nat => Value.int IntKind.u8 (a : Int)) <$> Rtype.kind t) #[.pointer (some ⟨3, 75, none⟩)]).run Tryd.prog w = .ok (.int .u8 22) w := by kernel_rfl
theorem Tas.kind25 (w : World) : ((ReflectliteType.abiMethod fun t => (fun a : Nat => Value.int IntKind.u8 (a : Int)) <$> Rtype.kind t) #[.pointer (some ⟨3, 58, none⟩)]).run Tryd.prog w = .ok (.int .u8 2) w := by kernel_rfl

/-! ### THE ENTRIES THAT READ OR WRITE MEMORY: laws with a premise on the cell (after Derived/Lib/ReflectliteSlice.lean's manner: each unfolding a lemma of its own, by rfl) -/
theorem rlm (z : Sem Value) (f : TypeId → Addr → Nat → Nat → Sem Value) (v : Value) :
    ReflectliteValue.method z f #[v] = (do match ← ReflectliteValue.parts v with | none => z | some (t, a, fl) => f t a fl (fl % 32)) := rfl
theorem Tas.parts27 (a : Addr) (w : World) : (ReflectliteValue.parts (.agg #[.pointer (some ⟨3, 75, none⟩), .pointer (some a), .int .u64 150])).run Tryd.prog w = .ok (some (75, a, 150)) w := by kernel_rfl
/-- (Value).IsNil at the Value of a **p.E that is not nil. -/
theorem Tas.isNil27 (a p : Addr) (W : World) (ha : W.cell? a = some (.pointer (some p))) :
    (ReflectliteValue.method (ReflectliteValue.valueError "reflectlite.Value.IsNil" 0) ReflectliteValue.isNil #[.agg #[.pointer (some ⟨3, 75, none⟩), .pointer (some a), .int .u64 150]]).run Tryd.prog W = .ok (.bool false) W := by
  rw [rlm]
  simp only [Sem.run_bind, Tas.parts27, Result.andThen]
  simp [ReflectliteValue.isNil, loadVar, isAgg, underlying, Tryd.underlying75, ha, Result.andThen]

theorem Tas.methodElem (h : Value) (w : World) : (Go.method 238 96 (.agg #[h]) "Elem").run Tryd.prog w = .ok (98, .agg #[h]) w := by kernel_rfl
theorem Tas.methodImplements (h : Value) (w : World) : (Go.method 238 96 (.agg #[h]) "Implements").run Tryd.prog w = .ok (99, .agg #[h]) w := by kernel_rfl
theorem Tas.methodAssignableTo (h : Value) (w : World) : (Go.method 238 96 (.agg #[h]) "AssignableTo").run Tryd.prog w = .ok (96, .agg #[h]) w := by kernel_rfl
theorem Tas.elem27 (w : World) : (ReflectliteType.method ReflectliteType.elem #[.agg #[.pointer (some ⟨3, 75, none⟩)]]).run Tryd.prog w = .ok (.iface 96 (.agg #[.pointer (some ⟨3, 58, none⟩)])) w := by kernel_rfl
theorem Tas.implements25 (w : World) : (ReflectliteType.relation "Implements" ReflectliteType.implements_ #[.agg #[.pointer (some ⟨3, 58, none⟩)], .iface 96 (.agg #[.pointer (some ⟨3, 25, none⟩)])]).run Tryd.prog w = .ok (.bool true) w := by kernel_rfl
theorem Tas.typeOf25 (v : Value) (w : World) : (ReflectliteType.typeOf #[.iface 58 v]).run Tryd.prog w = .ok (.iface 96 (.agg #[.pointer (some ⟨3, 58, none⟩)])) w := by kernel_rfl
theorem Tas.assignable25 (w : World) : (ReflectliteType.relation "AssignableTo" ReflectliteType.assignableTo #[.agg #[.pointer (some ⟨3, 58, none⟩)], .iface 96 (.agg #[.pointer (some ⟨3, 58, none⟩)])]).run Tryd.prog w = .ok (.bool true) w := by kernel_rfl
theorem Tas.valueOf25 (e : Int) (w : World) : (ReflectliteValue.unpack (.iface 58 (.int .i64 e))).run Tryd.prog w
    = .ok (.agg #[.pointer (some ⟨3, 58, none⟩), .pointer (some ⟨w.heap.size, 0, none⟩), .int .u64 130]) (w.alloc (.cells #[.int .i64 e] 58)) := by kernel_rfl

theorem Tas.elemOf27 (w : World) : (Rtype.elem? 75).run Tryd.prog w = .ok (some 58) w := by kernel_rfl
theorem Tas.mk25 (p : Addr) (w : World) : (ReflectliteValue.mk 58 p ReflectliteValue.flagAddr).run Tryd.prog w = .ok (.agg #[.pointer (some ⟨3, 58, none⟩), .pointer (some p), .int .u64 386]) w := by kernel_rfl
/-- (Value).Elem at the Value of a **p.E that is not nil: the Value of the *p.E variable that it points to, addressable. -/
theorem Tas.elemV27 (a p : Addr) (W : World) (ha : W.cell? a = some (.pointer (some p))) :
    (ReflectliteValue.method (ReflectliteValue.valueError "reflectlite.Value.Elem" 0) ReflectliteValue.elem #[.agg #[.pointer (some ⟨3, 75, none⟩), .pointer (some a), .int .u64 150]]).run Tryd.prog W
      = .ok (.agg #[.pointer (some ⟨3, 58, none⟩), .pointer (some p), .int .u64 386]) W := by
  rw [rlm]
  simp only [Sem.run_bind, Tas.parts27, Result.andThen]
  simp [ReflectliteValue.elem, loadVar, isAgg, underlying, Tryd.underlying75, ha, Result.andThen, Tas.elemOf27, Tas.mk25]
theorem rls (v x : Value) : ReflectliteValue.set #[v, x] = (do
    let (some (dst, a, fl), some (src, b, _)) := (← ReflectliteValue.parts v, ← ReflectliteValue.parts x)
      | unsupported (.noEntry "extern/(internal/reflectlite.Value).Set.zeroValue")
    if fl / ReflectliteValue.flagAddr % 2 == 0 then unsupported (.noEntry "extern/(internal/reflectlite.Value).Set.unaddressable")
    let val ← loadVar src b
    if ← Rtype.directlyAssignable dst src then storeVar dst a val
    else if ← Rtype.implements dst src then
      if (← Rtype.kind src) == 20 then
        match val with
        | .nilIface => unsupported (.noEntry "extern/reflectlite: a nil value of one interface type handed on as a value of another")
        | _ => storeVar dst a val
      else storeVar dst a (.iface src val)
    else panicString ("reflectlite.Set: value of type " ++ (← Rtype.spelt src) ++ " is not assignable to type " ++ (← Rtype.spelt dst))
    pure (.tuple #[])) := rfl
theorem Tas.parts25a (a : Addr) (w : World) : (ReflectliteValue.parts (.agg #[.pointer (some ⟨3, 58, none⟩), .pointer (some a), .int .u64 386])).run Tryd.prog w = .ok (some (58, a, 386)) w := by kernel_rfl
theorem Tas.parts25 (a : Addr) (w : World) : (ReflectliteValue.parts (.agg #[.pointer (some ⟨3, 58, none⟩), .pointer (some a), .int .u64 130])).run Tryd.prog w = .ok (some (58, a, 130)) w := by kernel_rfl
theorem Tas.direct25 (w : World) : (Rtype.directlyAssignable 58 58).run Tryd.prog w = .ok true w := by kernel_rfl
theorem Tas.size25 (w : World) : (sizeOf 58).run Tryd.prog w = .ok 1 w := by kernel_rfl
/-- (Value).Set: the *p.E variable at 'ta' gets what the Value's own variable 'b' holds. -/
theorem Tas.set25 (ta b : Addr) (e : Int) (old : Value) (W : World) (hb : W.cell? b = some (.int .i64 e)) (ht : W.cell? ta = some old) (hf : W.frozen? ta = false) :
    (ReflectliteValue.set #[.agg #[.pointer (some ⟨3, 58, none⟩), .pointer (some ta), .int .u64 386], .agg #[.pointer (some ⟨3, 58, none⟩), .pointer (some b), .int .u64 130]]).run Tryd.prog W
      = .ok (.tuple #[]) (W.setCell ta (.int .i64 e)) := by
  rw [rls]
  simp only [Sem.run_bind, Tas.parts25a, Tas.parts25, Result.andThen]
  simp [ReflectliteValue.flagAddr, loadVar, isAgg, underlying, Tryd.underlying58, hb, Result.andThen, Tas.direct25, storeVar, Value.cells, storeCells, Addr.add]
  rw [run_store Tryd.prog W ta _ _ (by rfl)]
  simp [ht, hf]

set_option maxRecDepth 100000 in
set_option maxHeartbeats 4000000 in
theorem as_hit (e : Int) (t : Addr) (old : Value) (w : World) (hg : w.cell? ⟨0, 0, none⟩ = some (.iface 96 (.agg #[.pointer (some ⟨3, 25, none⟩)]))) (ht0 : w.cell? t = some old) (hf0 : w.frozen? t = false) :
    Calls Tryd.prog 60 #[.iface 58 (.int .i64 e), .iface 75 (.pointer (some t))] w fun ev w' => ev = .returned (.bool true) ∧ w' = ((((w.alloc (.cells #[.pointer (some t)] 75)).alloc (.cells #[.pointer (some ⟨3, 75, none⟩), .pointer (some ⟨w.heap.size, 0, none⟩), .int .u64 150] 84)).alloc (.cells #[.pointer (some ⟨3, 75, none⟩), .pointer (some ⟨w.heap.size, 0, none⟩), .int .u64 150] 84)).alloc (.cells #[.int .i64 e] 58)).setCell t (.int .i64 e) := by
  have h6 := @run_callFunc_extern Tryd.prog 66 _ (fun args => ReflectliteValue.unpack (args.getD 0 (.tuple #[]))) Tryd.func66 (by kernel_rfl) (by kernel_rfl) (by kernel_rfl) (by kernel_rfl)
  have h7 := @run_callFunc_extern Tryd.prog 67 _ (ReflectliteValue.methodAny (ReflectliteValue.valueError "reflectlite.Value.Type" 0) (fun t _ _ _ => ReflectliteType.toType t)) Tryd.func67 (by kernel_rfl) (by kernel_rfl) (by kernel_rfl) (by kernel_rfl)
  have h8 := @run_callFunc_extern Tryd.prog 68 _ (ReflectliteValue.method (ReflectliteValue.valueError "reflectlite.Value.IsNil" 0) ReflectliteValue.isNil) Tryd.func68 (by kernel_rfl) (by kernel_rfl) (by kernel_rfl) (by kernel_rfl)
  have h27 := @run_callFunc_extern Tryd.prog 88 _ (ReflectliteType.abiMethod fun t => do pure (.int .u8 (← Rtype.kind t))) Tryd.func88 (by kernel_rfl) (by kernel_rfl) (by kernel_rfl) (by kernel_rfl)
  have h37 := @run_callFunc_extern Tryd.prog 98 _ (ReflectliteType.method ReflectliteType.elem) Tryd.func98 (by kernel_rfl) (by kernel_rfl) (by kernel_rfl) (by kernel_rfl)
  have h38 := @run_callFunc_extern Tryd.prog 99 _ (ReflectliteType.relation "Implements" ReflectliteType.implements_) Tryd.func99 (by kernel_rfl) (by kernel_rfl) (by kernel_rfl) (by kernel_rfl)
  have h10 := @run_callFunc_extern Tryd.prog 71 _ ReflectliteType.typeOf Tryd.func71 (by kernel_rfl) (by kernel_rfl) (by kernel_rfl) (by kernel_rfl)
  have h35 := @run_callFunc_extern Tryd.prog 96 _ (ReflectliteType.relation "AssignableTo" ReflectliteType.assignableTo) Tryd.func96 (by kernel_rfl) (by kernel_rfl) (by kernel_rfl) (by kernel_rfl)
  have h11 := @run_callFunc_extern Tryd.prog 72 _ (ReflectliteValue.method (ReflectliteValue.valueError "reflectlite.Value.Elem" 0) ReflectliteValue.elem) Tryd.func72 (by kernel_rfl) (by kernel_rfl) (by kernel_rfl) (by kernel_rfl)
  have h12 := @run_callFunc_extern Tryd.prog 73 _ ReflectliteValue.set Tryd.func73 (by kernel_rfl) (by kernel_rfl) (by kernel_rfl) (by kernel_rfl)
  have tO := Tas.typeOf25
  have mA := Tas.methodAssignableTo
  have a25 := Tas.assignable25
  have v25 := Tas.valueOf25
  have f6 := Tas.valueOf27
  have f7 := Tas.type27
  have mK := Tas.methodKind
  have mE := Tas.methodElem
  have mI := Tas.methodImplements
  have k27 := Tas.kind27
  have k25 := Tas.kind25
  have e27 := Tas.elem27
  have i25 := Tas.implements25
  have n8 := Tas.isNil27 ⟨w.heap.size, 0, none⟩ t ((w.alloc (.cells #[.pointer (some t)] 75)).alloc (.cells #[.pointer (some ⟨3, 75, none⟩), .pointer (some ⟨w.heap.size, 0, none⟩), .int .u64 150] 84)) (by simp)
  have hlt : 0 < w.heap.size := by
    rcases Nat.eq_zero_or_pos w.heap.size with h0 | h
    · simp [World.cell?, h0] at hg
    · exact h
  have hg2 : ((w.alloc (.cells #[.pointer (some t)] 75)).alloc (.cells #[.pointer (some ⟨3, 75, none⟩), .pointer (some ⟨w.heap.size, 0, none⟩), .int .u64 150] 84)).cell? ⟨0, 0, none⟩ = some (.iface 96 (.agg #[.pointer (some ⟨3, 25, none⟩)])) := by
    rw [World.cell?_alloc_lt _ _ ⟨0, 0, none⟩ (by simp), World.cell?_alloc_lt _ _ ⟨0, 0, none⟩ hlt]; exact hg
  have htl : t.block < w.heap.size := by
    rcases Nat.lt_or_ge t.block w.heap.size with h | h
    · exact h
    · simp [World.cell?, Array.getElem?_eq_none h] at ht0
  have el := Tas.elemV27 ⟨w.heap.size, 0, none⟩ t (((w.alloc (.cells #[.pointer (some t)] 75)).alloc (.cells #[.pointer (some ⟨3, 75, none⟩), .pointer (some ⟨w.heap.size, 0, none⟩), .int .u64 150] 84)).alloc (.cells #[.pointer (some ⟨3, 75, none⟩), .pointer (some ⟨w.heap.size, 0, none⟩), .int .u64 150] 84)) (by rw [World.cell?_alloc_lt _ _ ⟨w.heap.size, 0, none⟩ (by simp; omega)]; simp)
  have st := Tas.set25 t ⟨w.heap.size + 1 + 1 + 1, 0, none⟩ e old ((((w.alloc (.cells #[.pointer (some t)] 75)).alloc (.cells #[.pointer (some ⟨3, 75, none⟩), .pointer (some ⟨w.heap.size, 0, none⟩), .int .u64 150] 84)).alloc (.cells #[.pointer (some ⟨3, 75, none⟩), .pointer (some ⟨w.heap.size, 0, none⟩), .int .u64 150] 84)).alloc (.cells #[.int .i64 e] 58))
    (by rw [World.cell?_alloc_at _ _ _ _ (by simp)]; rfl)
    (by rw [World.cell?_alloc_lt _ _ t (by simp; omega), World.cell?_alloc_lt _ _ t (by simp; omega), World.cell?_alloc_lt _ _ t (by simp; omega), World.cell?_alloc_lt _ _ t htl]; exact ht0)
    (by rw [World.frozen?_alloc_old _ _ t (by simp; omega), World.frozen?_alloc_old _ _ t (by simp; omega), World.frozen?_alloc_old _ _ t (by simp; omega), World.frozen?_alloc_old _ _ t (Nat.ne_of_lt htl)]; exact hf0)
  go_enter Tryd.func60, Tryd.ntmps60
  go_wp2
  refine wp_loop_rounds 1 ?_
  rw [rounds_succ]
  go_wp2
  go_ret
  exact ⟨rfl, rfl⟩
end Go.Proofs.YtlopkkoenfngiaaDoor

/- The number of an error, as the program tells it; is an error the one with a number? -/
namespace Go.Proofs.YtlopkkoenfngiaaDoor
open Go.RowKit Go.Extern.Stop Go.Stop Go.Extern Go.Vc

theorem fr_alloc (w : World) (o : Obj) : Fr (fun _ => False) w (w.alloc o) := ⟨rfl, rfl, rfl, by simp, fun b hb _ => Ext.alloc w o b hb⟩

theorem told_nil (w : World) : Calls Tryd.prog 49 #[.nilIface] w fun e w' => e = .returned (.int .i64 0) ∧ w' = w := by
  go_enter Tryd.func49, Tryd.ntmps49
  go_wp2
  go_ret
  exact ⟨rfl, rfl⟩

set_option maxRecDepth 100000 in
set_option maxHeartbeats 4000000 in
theorem told_hit (n : Int) (w : World) (hg : w.cell? ⟨0, 0, none⟩ = some (.iface 96 (.agg #[.pointer (some ⟨3, 25, none⟩)]))) :
    Calls Tryd.prog 49 #[.iface 58 (.int .i64 n)] w fun e w' => e = .returned (.int .i64 n) ∧ Fr (fun _ => False) w w' := by
  have hlt : 0 < w.heap.size := World.block_lt_of_cell? w ⟨0, 0, none⟩ hg
  have hgA : (w.alloc (.cells #[.int .i64 0] 58)).cell? ⟨0, 0, none⟩ = some (.iface 96 (.agg #[.pointer (some ⟨3, 25, none⟩)])) := by
    rw [World.cell?_alloc_lt _ _ ⟨0, 0, none⟩ hlt]; exact hg
  have htA : (w.alloc (.cells #[.int .i64 0] 58)).cell? ⟨w.heap.size, 0, none⟩ = some (.int .i64 0) := by simp
  have hfA : (w.alloc (.cells #[.int .i64 0] 58)).frozen? ⟨w.heap.size, 0, none⟩ = false := by simp
  go_enter Tryd.func49, Tryd.ntmps49
  go_wp2_with (go_at_call 60; refine (as_hit n _ (.int .i64 0) _ hgA htA hfA).mono ?_; rintro e w' ⟨rfl, rfl⟩)
  go_ret
  exact ⟨rfl, ((((fr_alloc _ _).trans (fr_alloc _ _)).trans (fr_alloc _ _)).trans (fr_alloc _ _)).trans (fr_alloc _ _)⟩

/-- the handle of the type 'error' -/
abbrev hdE : Value := .iface 96 (.agg #[.pointer (some ⟨3, 25, none⟩)])
def glE : List (Nat × Dat) := [(0, ⟨.raw, hdE⟩)]
theorem hd_of {w : World} {ro : Nat → Prop} (h : GlOk glE w ro) : w.cell? ⟨0, 0, none⟩ = some hdE := by
  obtain ⟨_, us, h1, hn⟩ := h 0 _ (List.mem_singleton.2 rfl)
  have hn : us = [hdE] ∧ hdE.oneCell' = true := hn
  exact h1 0 hdE (by rw [hn.1]; rfl)
def cTold : Ctr := cdet [tErr] (fun (n : Int) => inK .i64 n) (fun (n : Int) => [⟨I, n⟩])
theorem okTold : PlainOk Tryd.prog glE 49 cTold := by
  intro ds k hs w R0 vals hR0 hG hD
  obtain ⟨hp, hk⟩ := hs
  obtain ⟨n, rfl, hin⟩ := dest1 hp
  have hk : k [⟨I, n⟩] := hk
  obtain ⟨hl, hd⟩ := hD
  match vals, hl with
  | [v], _ =>
    have hv : Ty.okV w R0 tErr n v := hd 0 ⟨tErr, n⟩ v rfl rfl
    unfold Ty.okV at hv
    simp only [Ty.agg, Bool.false_eq_true, if_false, Ty.ok] at hv
    have hok : ∀ {w' : World} {ro : Nat → Prop}, inK .i64 n → RetOk w' ro [(⟨I, n⟩ : Dat)] (.int .i64 n) := by
      intro w' ro hn
      show Ty.okV _ _ I n _
      unfold Ty.okV
      simp only [Ty.agg, Bool.false_eq_true, if_false, Ty.ok]
      exact ⟨trivial, hn⟩
    rcases hv with ⟨h0, hv⟩ | ⟨h0, hv⟩
    · injection hv with hv
      subst hv
      have h0 : (0 : Int) = n := h0.symm
      subst h0
      refine (show Calls Tryd.prog 49 #[.nilIface] w _ from told_nil w).mono fun e w' ⟨he, hw⟩ => ?_
      subst hw
      exact ⟨Fr.refl _ _, [⟨I, (0 : Int)⟩], _, he, hk, hok hin⟩
    · injection hv with hv
      subst hv
      refine (show Calls Tryd.prog 49 #[.iface 58 (.int .i64 n)] w _ from told_hit n w (hd_of hG)).mono fun e w' ⟨he, hw⟩ => ?_
      exact ⟨hw, [⟨I, n⟩], _, he, hk, hok hin⟩
theorem PlainOk.sub {P : Program} {gl gl' : List (Nat × Dat)} {f : FuncId} {c : Ctr} (hs : ∀ x ∈ gl, x ∈ gl') (h : PlainOk P gl f c) : PlainOk P gl' f c :=
  fun ds k hk w R0 vals hR0 hG hD => h ds k hk w R0 vals hR0 (fun g d hg => hG g d (hs _ hg)) hD
def cError : Ctr := cdet [tErr, I] (fun (n _ : Int) => inK .i64 n ∧ True) (fun (n e : Int) => [⟨.bool, decide (n = e)⟩])
def Er : Env := { tys := [(3, I), (4, .bool), (25, tErr), (58, I)], errT := 58, eqs := [], els := [] }
theorem Er_ok : EnvOk Tryd.prog Er := EnvOk.of_list (by kernel_rfl) (by kernel_rfl) (by kernel_rfl)
set_option linter.unusedVariables false in
theorem vcError (n e : Int) (k : List Dat → Prop) : vcF ⟨Er, [(49, cTold)], glE, [], []⟩ [] (Tryd.f25.body.getD .skip) Tryd.f25.ntmps [(.tmp 4, .bool)] [⟨tErr, n⟩, ⟨I, e⟩] k = (
  IntKind.i64.wrap n = n ∧ k [Dat.mk Ty.bool (decide (n = e))]) := by kernel_rfl
theorem okError : PlainOk Tryd.prog glE 25 cError := by
  refine plain_of (CxOk.mk' Er_ok rfl (by kernel_rfl) (gl := glE) (GOk.cons okTold Tryd.func49 (by kernel_rfl) (by kernel_rfl) GOk.nil) GoOk.nil noIt) Tryd.func25 (c := Tryd.f25.body.getD .skip) (rvs := [(.tmp 4, .bool)]) (by kernel_rfl) (by kernel_rfl) (by kernel_rfl) ?_
  intro ds k ⟨hp, hk⟩ hwf
  obtain ⟨n, e, rfl, hin, -⟩ := dest2 hp
  have hk : k [⟨.bool, decide (n = e)⟩] := hk
  refine ⟨[], ?_⟩
  rw [vcError]
  exact ⟨hin, hk⟩
theorem glE_of {laid : List (String × DataW Unit)} (hm : ("errors.errorType", Rows.laid_errors_errorType) ∈ laid) {W : World} (h : laidMetH Tryd.prog laid W) : GlOk glE W fun b => b < W.heap.size :=
  gl_of_handle (n := "errors.errorType") (u := 96) (ty := 25) (d := Rows.laid_errors_errorType) h hm rfl rfl (by kernel_rfl) (by kernel_rfl) (by kernel_rfl) (by kernel_rfl) rfl
end Go.Proofs.YtlopkkoenfngiaaDoor

/- Quorums: what the reference answers. -/
namespace Go.Proofs.YtlopkkoenfngiaaDoor
open Go.Vc
def cSetsR : Ctr := cdet [I, .sl I] (fun _ _ => True) (fun n l => [⟨I, chkS n l⟩])
def anSetsR (n : Int) (l : List Int) : Ann :=
  [joinAll, loopAt 8 Nat [] (fun st i => St.at (St.only st [0, 1, 4]) [(5, .d I (i : Int))]) (fun _ i => inCheck n l i) (fun i => l.length - i),
   loopAt 15 Nat [] (fun st j => St.at (St.only st [0, 1, 4, 5]) [(6, .d I (j : Int))]) (fun st j => j ≤ (st.i 5).toNat ∧ ∀ t ∈ (l.take (st.i 5).toNat).take j, meetB (l.getD (st.i 5).toNat 0) t = true) (fun j => l.length - j)]
def hasR (l : List Int) (v : Int) : Bool := l.any fun s => subB s v
def cHasR : Ctr := cdet [.sl I, I] (fun _ _ => True) (fun l v => [⟨.bool, hasR l v⟩])
def anHasR (l : List Int) (v : Int) : Ann := [loopAt 2 Nat [] (fun st i => St.at (St.only st [0, 1, 4]) [(5, .d I (i : Int))]) (fun _ i => i ≤ l.length ∧ hasR (l.take i) v = false) (fun i => l.length - i)]
def fullR (n : Int) (l : List Int) : Int := match firstP (neither n l) (2 ^ n.toNat) 0 with
  | some x => (x : Int)
  | none => -1
def cFullR : Ctr := cdet [I, .sl I] (fun (n : Int) (l : List Int) => chkS n l = 0) (fun n l => [⟨I, fullR n l⟩])
structure InFull (n : Int) (l : List Int) (i : Nat) : Prop where
  ge : chkS n l = 0
  le : i ≤ 2 ^ n.toNat
  eq : firstP (neither n l) (2 ^ n.toNat) 0 = firstP (neither n l) (2 ^ n.toNat - i) i
def anFullR (n : Int) (l : List Int) : Ann := [joinAll, loopAt 2 Nat [] (fun st i => St.at (St.only st [0, 1, 4]) [(5, .d I (i : Int))]) (fun _ i => InFull n l i) (fun i => 2 ^ n.toNat - i)]
def cLeastR : Ctr := cdet [I, .sl I] (fun (n : Int) (l : List Int) => chkS n l = 0) (fun n l => [⟨.sl I, leastU l (2 ^ n.toNat)⟩])
def hereB (l : List Int) (s : Int) : Bool := l.any fun t => decide (t = s)
def lowR (l : List Int) (s : Int) : Bool := l.all fun t => decide (t = s) || !subB t s
structure InLeast (n : Int) (l : List Int) (s : Nat) : Prop where
  ge : chkS n l = 0
  le : 1 ≤ s ∧ s ≤ 2 ^ n.toNat
def anLeastR (n : Int) (l : List Int) : Ann :=
  [joinAll, loopAt 3 Nat [(5, 3, I)] (fun st s => { St.at (St.only st [0, 1, 5]) [(6, .d I (s : Int))] with ob := [.row 3 I (leastU l s)] }) (fun _ s => InLeast n l s) (fun s => 2 ^ n.toNat - s),
   loopAt 8 Nat [] (fun st i => St.at (St.only st [0, 1, 5, 6]) [(7, .d .bool (hereB (l.take i) (st.i 6))), (8, .d .bool (lowR (l.take i) (st.i 6))), (9, .d I (i : Int))]) (fun _ i => i ≤ l.length ∧ True) (fun i => l.length - i)]
def wR (w : List Int) (s : Int) (k : Nat) : Int := if 0 ≤ s then SS w s.toNat k else 0
def cWeightR : Ctr := cdet [.sl I, I] (fun (w : List Int) (_ : Int) => wOk w) (fun (w : List Int) (s : Int) => [⟨I, wR w s w.length⟩])
def anWeightR (w : List Int) (s : Int) : Ann := [loopAt 3 Nat [] (fun st i => St.at (St.only st [0, 1, 4]) [(5, .d I (wR w s i)), (6, .d I (i : Int))]) (fun _ i => i ≤ w.length ∧ True) (fun i => w.length - i)]
def WW (w : List Int) (s : Nat) : Int := SS w s w.length
/-- have the smaller ones too little? -/
def lowT (w : List Int) (need : Int) (s t : Nat) : Bool := decide (need ≤ WW w s) && (List.range t).all fun (x : Nat) => !subB (x : Int) (s : Int) || decide (WW w x < need)
def cVotesR : Ctr := cdet [.sl I, I] (fun _ _ => True) (fun w need => [⟨.sl I, votesL w need⟩, ⟨I, votesE w need⟩])
structure InV (w : List Int) (need : Int) (s : Nat) : Prop where
  ge : votesE w need = 0
  le : s ≤ 2 ^ w.length
structure InV0 (w : List Int) (i : Nat) : Prop where
  ge : 0 < w.length ∧ w.length ≤ 8
  le : i ≤ w.length
  all : ∀ x ∈ w.take i, inB x 0 20 = true
def anVotesR (w : List Int) (need : Int) : Ann :=
  [joinAll, loopAt 7 Nat [] (fun st i => St.at (St.only st [0, 1, 5, 6]) [(7, .d I (i : Int))]) (fun _ i => InV0 w i) (fun i => w.length - i),
   loopAt 18 Nat [(9, 3, I)] (fun st s => { St.at (St.only st [0, 1, 5, 6, 9]) [(10, .d I (s : Int))] with ob := [.row 3 I (votesU w need s)] }) (fun _ s => InV w need s) (fun s => 2 ^ w.length - s),
   loopAt 22 Nat [] (fun st t => St.at (St.only st [0, 1, 5, 6, 9, 10]) [(11, .d .bool (lowT w need (st.i 10).toNat t)), (12, .d I (t : Int))]) (fun st t => t ≤ (st.i 10).toNat ∧ True) (fun t => 2 ^ w.length - t)]
/-- the least number that two have in common, as the reference finds it -/
def MR (n : Int) (l : List Int) (i j : Nat) (m : Int) : Prop :=
  m ≤ n ∧ (∀ a b, (a < i ∧ b < l.length ∨ a = i ∧ b < j) → m ≤ popI (l.getD a 0) (l.getD b 0)) ∧ (m = n ∨ ∃ a b, a < l.length ∧ b < l.length ∧ m = popI (l.getD a 0) (l.getD b 0))
/-- no set of so few takes all away -/
def FR (n : Int) (l : List Int) (f : Int) : Prop := 0 ≤ f ∧ f ≤ n ∧ ∀ x : Nat, x < 2 ^ n.toNat → hasB l (complN n (x : Int)) = false → f ≤ (popN x : Int) - 1
def allR (n : Int) (l : List Int) (f : Int) (s : Nat) : Bool := (List.range s).all fun (x : Nat) => !(decide ((popN x : Int) = f + 1) && !hasB l (complN n (x : Int)))
def cMasksR : Ctr := cgen [I, .sl I] fun n l (k : List Dat → Prop) => chkS n l = 0 ∧ ∀ a f : Int, ((∃ m : Int, MR n l l.length 0 m ∧ a = (m - 1).tdiv 2) ∧ FP n l (2 ^ n.toNat) f) → k [⟨I, a⟩, ⟨I, f⟩]
structure InM (n : Int) (l : List Int) (i j : Nat) (m : Int) : Prop where
  ge : chkS n l = 0
  hi : i ≤ l.length
  hj : j ≤ l.length
  hm : MR n l i j m
structure InA (n : Int) (l : List Int) (m : Int) (a : Nat) : Prop where
  ge : chkS n l = 0
  hm : MR n l l.length 0 m
  ha : 2 * (a : Int) + 1 ≤ m
structure InF (n : Int) (l : List Int) (a f : Int) : Prop where
  ge : chkS n l = 0
  ha : ∃ m : Int, MR n l l.length 0 m ∧ a = (m - 1).tdiv 2
  hf : FR n l f
def anMasksR (n : Int) (l : List Int) : Ann :=
  [joinAll, loopAt 3 (Nat × Int) [] (fun st x => St.at (St.only st [0, 1]) [(6, .d I x.2), (7, .d I (x.1 : Int))]) (fun _ x => InM n l x.1 0 x.2) (fun x => l.length - x.1),
   loopAt 6 (Nat × Int) [] (fun st x => St.at (St.only st [0, 1, 7]) [(6, .d I x.2), (8, .d I (x.1 : Int))]) (fun st x => InM n l (st.i 7).toNat x.1 x.2) (fun x => l.length - x.1),
   loopAt 12 Nat [] (fun st a => St.at (St.only st [0, 1, 6]) [(10, .d I (a : Int))]) (fun st a => InA n l (st.i 6) a) (fun a => 8 - a),
   loopAt 15 Int [] (fun st f => St.at (St.only st [0, 1, 10]) [(11, .d I f)]) (fun st f => InF n l (st.i 10) f) (fun f => (n - f).toNat),
   loopAt 18 Nat [] (fun st s => St.at (St.only st [0, 1, 10, 11]) [(12, .d .bool (allR n l (st.i 11) s)), (13, .d I (s : Int))]) (fun _ s => s ≤ 2 ^ n.toNat ∧ True) (fun s => 2 ^ n.toNat - s)]
end Go.Proofs.YtlopkkoenfngiaaDoor
