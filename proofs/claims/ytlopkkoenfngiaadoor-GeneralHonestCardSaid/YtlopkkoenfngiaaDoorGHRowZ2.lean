/- Own texts, merged: M, V5, Ok5, M2, Ok6, M3, V6, Ok7, GOk3, GV3, GOk4, GM2, GDef2, GV4, GLaw, Gl. -/
import Derived.Test.YtlopkkoenfngiaaDoorGHRowZ1
import Derived.Test.YtlopkkoenfngiaaDoorVcNB
import Derived.Test.YtlopkkoenfngiaaDoorVcPA
/- Quorums: sets of numbers as bits; what is full; the least ones. -/
namespace Go.Proofs.YtlopkkoenfngiaaDoor
open Go.Vc

def sub (a b : Nat) : Prop := ∀ i, a.testBit i = true → b.testBit i = true
theorem sub_and {a b : Nat} (h : sub a b) : a &&& b = a := by
  apply Nat.eq_of_testBit_eq
  intro i
  rw [Nat.testBit_and]
  cases ha : a.testBit i with
  | false => rfl
  | true => rw [h i ha]; rfl
theorem sub_le {a b : Nat} (h : sub a b) : a ≤ b := by
  have := sub_and h
  rw [← this]; exact Nat.and_le_right
theorem sub_trans {a b c : Nat} (h : sub a b) (k : sub b c) : sub a c := fun i hi => k i (h i hi)
theorem subS_iff (a b : Nat) : subS (a : Int) (b : Int) = true ↔ sub a b := by
  unfold subS
  simp only [Int.toNat_natCast, decide_eq_true_eq]
  constructor
  · intro h i hi
    have h0 : a ^^^ (a &&& b) = 0 := by omega
    have := congrArg (fun n => Nat.testBit n i) h0
    simp only [Nat.testBit_xor, Nat.testBit_and, Nat.zero_testBit, hi, Bool.true_and] at this
    simpa using this
  · intro h
    rw [sub_and h, Nat.xor_self]; rfl
theorem meet_iff {a b : Nat} : a &&& b ≠ 0 ↔ ∃ i, a.testBit i = true ∧ b.testBit i = true := by
  constructor
  · intro h
    refine Classical.byContradiction fun hc => h ?_
    apply Nat.eq_of_testBit_eq
    intro i
    rw [Nat.testBit_and, Nat.zero_testBit]
    cases ha : a.testBit i with
    | false => rfl
    | true =>
      cases hb : b.testBit i with
      | false => rfl
      | true => exact absurd ⟨i, ha, hb⟩ hc
  · rintro ⟨i, ha, hb⟩ h
    have := congrArg (fun n => Nat.testBit n i) h
    simp only [Nat.testBit_and, ha, hb, Nat.zero_testBit] at this
    cases this
theorem bit_lt {a n i : Nat} (h : a < 2 ^ n) (hi : a.testBit i = true) : i < n := by
  rcases Nat.lt_or_ge i n with h1 | h1
  · exact h1
  · have := Nat.testBit_lt_two_pow (Nat.lt_of_lt_of_le h (Nat.pow_le_pow_right (by decide) h1))
    rw [this] at hi; cases hi
theorem compl_nat (n : Int) (x : Nat) : complN n (x : Int) = (((2 ^ n.toNat - 1) ^^^ ((2 ^ n.toNat - 1) &&& x) : Nat) : Int) := by
  unfold complN
  have e : (1 * (2 : Int) ^ n.toNat - 1).toNat = 2 ^ n.toNat - 1 := by
    rw [Int.one_mul, powC]
    have := Nat.two_pow_pos n.toNat
    omega
  rw [e, Int.toNat_natCast]
theorem compl_bit (n x i : Nat) : ((2 ^ n - 1) ^^^ ((2 ^ n - 1) &&& x)).testBit i = (decide (i < n) && !x.testBit i) := by
  rw [Nat.testBit_xor, Nat.testBit_and, Nat.testBit_two_pow_sub_one]
  cases decide (i < n) <;> cases x.testBit i <;> rfl

/-- some nodes have one of the sets -/
theorem has_iff {n : Int} {l : List Int} (g : Sets n l) (v : Nat) : hasB l (v : Int) = true ↔ ∃ s : Nat, (s : Int) ∈ l ∧ sub s v := by
  unfold hasB
  rw [List.any_eq_true]
  constructor
  · rintro ⟨s, hs, h⟩
    have := g.mem s hs
    obtain ⟨m, rfl⟩ := Int.eq_ofNat_of_zero_le (show 0 ≤ s by omega)
    exact ⟨m, hs, (subS_iff m v).1 h⟩
  · rintro ⟨s, hs, h⟩
    exact ⟨_, hs, (subS_iff s v).2 h⟩
theorem memN {n : Int} {l : List Int} (g : Sets n l) {s : Nat} (h : (s : Int) ∈ l) : 0 < s ∧ s < 2 ^ n.toNat := by
  have := g.mem _ h
  rw [powC] at this
  omega

theorem firstP_some {p : Nat → Bool} : ∀ {f i x : Nat}, firstP p f i = some x → p x = true ∧ i ≤ x ∧ x < i + f := by
  intro f
  induction f with
  | zero => intro i x h; cases h
  | succ f ih =>
    intro i x h
    unfold firstP at h
    split at h
    · rename_i hp
      injection h with h; subst h
      exact ⟨hp, by omega, by omega⟩
    · have := ih h
      exact ⟨this.1, by omega, by omega⟩
theorem firstP_none {p : Nat → Bool} : ∀ {f i : Nat}, firstP p f i = none → ∀ x, i ≤ x → x < i + f → p x = false := by
  intro f
  induction f with
  | zero => intro i _ x h1 h2; omega
  | succ f ih =>
    intro i h x h1 h2
    unfold firstP at h
    split at h
    · cases h
    · rename_i hp
      by_cases hx : x = i
      · subst hx; simpa using hp
      · exact ih h x (by omega) (by omega)

theorem notfull {n : Int} {l : List Int} (hc : chkS n l = 0) (h : isF n l = false) : ∃ x : Nat, someN n l = (x : Int) ∧ x < 2 ^ n.toNat ∧ neither n l x = true := by
  unfold isF someN at *
  cases hf : fullO n l with
  | none => rw [hf] at h; cases h
  | some x =>
    refine ⟨x, rfl, ?_⟩
    unfold fullO at hf
    rw [if_pos hc] at hf
    have := firstP_some hf
    exact ⟨by omega, this.1⟩
theorem isfull {n : Int} {l : List Int} (hc : chkS n l = 0) (h : isF n l = true) (x : Nat) (hx : x < 2 ^ n.toNat) : neither n l x = false := by
  unfold isF at h
  cases hf : fullO n l with
  | some x => rw [hf] at h; cases h
  | none =>
    unfold fullO at hf
    rw [if_pos hc] at hf
    exact firstP_none hf x (by omega) (by omega)

/-- no set is among all others: each meets these -/
theorem meets_some {n : Int} {l : List Int} (g : Sets n l) {x : Nat} (h : neither n l x = true) {s : Nat} (hs : (s : Int) ∈ l) : s &&& x ≠ 0 := by
  unfold neither at h
  rw [Bool.and_eq_true, Bool.not_eq_true', Bool.not_eq_true'] at h
  rw [meet_iff]
  refine Classical.byContradiction fun hc => ?_
  have h2 := h.2
  rw [compl_nat] at h2
  have : hasB l (((2 ^ n.toNat - 1) ^^^ ((2 ^ n.toNat - 1) &&& x) : Nat) : Int) = true := by
    rw [has_iff g]
    refine ⟨s, hs, fun i hi => ?_⟩
    rw [compl_bit, decide_eq_true (bit_lt (memN g hs).2 hi)]
    cases hx : x.testBit i with
    | false => rfl
    | true => exact absurd ⟨i, hi, hx⟩ hc
  rw [this] at h2; cases h2

/-- each of other sets that meet, one of which is in each, has one of these -/
theorem full_other {n : Int} {l o : List Int} (gl' : Sets n l) (go : Sets n o) (hc : chkS n l = 0) (hf : isF n l = true) (hall : ∀ j, j < l.length → hasB o (l.getD j 0) = true) {t : Nat} (ht : (t : Int) ∈ o) : hasB l (t : Int) = true := by
  have hne := isfull hc hf t (memN go ht).2
  unfold neither at hne
  cases h1 : hasB l (t : Int) with
  | true => rfl
  | false =>
    rw [h1] at hne
    have h2 : hasB l (complN n (t : Int)) = true := by simpa using hne
    rw [compl_nat, has_iff gl'] at h2
    obtain ⟨s, hs, hsub⟩ := h2
    obtain ⟨j, hj, he⟩ := List.getElem_of_mem hs
    have h3 := hall j hj
    rw [getD_at hj, he, has_iff go] at h3
    obtain ⟨u, hu, hus⟩ := h3
    have hm := go.meet _ hu _ ht
    rw [Int.toNat_natCast, Int.toNat_natCast, meet_iff] at hm
    obtain ⟨i, hi1, hi2⟩ := hm
    have := hsub i (hus i hi1)
    rw [compl_bit, hi2] at this
    simp at this

theorem least_mem {l : List Int} {k : Nat} {s : Int} : s ∈ leastU l k ↔ ∃ x : Nat, x < k ∧ s = (x : Int) ∧ leastB l s = true := by
  unfold leastU
  rw [List.mem_filter, List.mem_map]
  constructor
  · rintro ⟨⟨x, hx, rfl⟩, h⟩
    exact ⟨x, List.mem_range.1 hx, rfl, h⟩
  · rintro ⟨x, hx, rfl, h⟩
    exact ⟨⟨x, List.mem_range.2 hx, rfl⟩, h⟩
theorem leastB_iff {n : Int} {l : List Int} (g : Sets n l) (x : Nat) : leastB l (x : Int) = true ↔ (x : Int) ∈ l ∧ ∀ t : Nat, (t : Int) ∈ l → sub t x → t = x := by
  unfold leastB
  rw [Bool.and_eq_true, List.any_eq_true, Bool.not_eq_true']
  constructor
  · rintro ⟨⟨s, hs, he⟩, h2⟩
    have he := of_decide_eq_true he
    subst he
    refine ⟨hs, fun t ht hsub => Classical.byContradiction fun hne => ?_⟩
    have : l.any (lstB (x : Int)) = true := List.any_eq_true.2 ⟨_, ht, by
      unfold lstB
      rw [(subS_iff t x).2 hsub, decide_eq_false (by omega)]; rfl⟩
    rw [this] at h2; cases h2
  · rintro ⟨h1, h2⟩
    refine ⟨⟨_, h1, decide_eq_true rfl⟩, ?_⟩
    cases h3 : l.any (lstB (x : Int)) with
    | false => rfl
    | true =>
      obtain ⟨t, ht, hb⟩ := List.any_eq_true.1 h3
      have := g.mem t ht
      obtain ⟨m, rfl⟩ := Int.eq_ofNat_of_zero_le (show 0 ≤ t by omega)
      unfold lstB at hb
      rw [Bool.and_eq_true, subS_iff] at hb
      have := h2 m ht hb.2
      subst this
      simp at hb
/-- below each set there is a least one -/
theorem least_below {n : Int} {l : List Int} (g : Sets n l) {s : Nat} (hs : (s : Int) ∈ l) : ∃ t : Nat, (t : Int) ∈ leastL n l ∧ sub t s := by
  obtain ⟨t, ⟨ht, hsub⟩, hmin⟩ := exists_least (p := fun t => (t : Int) ∈ l ∧ sub t s) ⟨s, hs, fun _ h => h⟩
  refine ⟨t, least_mem.2 ⟨t, (memN g ht).2, rfl, (leastB_iff g t).2 ⟨ht, fun u hu hut => ?_⟩⟩, hsub⟩
  have h1 := hmin u ⟨hu, sub_trans hut hsub⟩
  have h2 := sub_le hut
  omega

theorem nodup_len : ∀ {l m : List Int}, l.Nodup → (∀ x ∈ l, x ∈ m) → l.length ≤ m.length := by
  intro l
  induction l with
  | nil => intro m _ _; exact Nat.zero_le _
  | cons a r ih =>
    intro m hn hs
    have ha := hs a (.head _)
    rw [List.nodup_cons] at hn
    have := ih (m := m.erase a) hn.2 fun x hx => (List.mem_erase_of_ne (fun (e : x = a) => hn.1 (by rw [← e]; exact hx))).2 (hs x (.tail _ hx))
    rw [List.length_erase_of_mem ha] at this
    have hp := List.length_pos_of_mem ha
    rw [List.length_cons]
    omega
theorem range_nodup (k : Nat) (p : Int → Bool) : (((List.range k).map fun (i : Nat) => (i : Int)).filter p).Nodup := by
  refine List.Pairwise.filter _ ?_
  rw [List.pairwise_map]
  exact (List.pairwise_lt_range (n := k)).imp fun h => by omega
theorem getD_inj {l : List Int} (hn : l.Nodup) {i j : Nat} (hi : i < l.length) (hj : j < l.length) (hij : i ≠ j) : l.getD i 0 ≠ l.getD j 0 := by
  rw [getD_at hi, getD_at hj]
  have := List.pairwise_iff_getElem.1 hn
  rcases Nat.lt_or_gt_of_ne hij with h | h
  · exact this i j hi hj h
  · exact fun e => this j i hj hi h e.symm

theorem least_sets {n : Int} {l : List Int} (g : Sets n l) : Sets n (leastL n l) ∧ (leastL n l).length ≤ l.length := by
  have hin : ∀ s ∈ leastL n l, s ∈ l := by
    intro s hs
    obtain ⟨x, _, rfl, h⟩ := least_mem.1 hs
    exact ((leastB_iff g x).1 h).1
  have hlen := nodup_len (range_nodup (2 ^ n.toNat) (leastB l)) hin
  refine ⟨⟨g.rng, ⟨?_, Nat.le_trans hlen g.len.2⟩, fun s hs => g.mem s (hin s hs), fun s hs t ht => g.meet s (hin s hs) t (hin t ht)⟩, hlen⟩
  have h0 := getD_mem (l := l) (i := 0) g.len.1
  have := g.mem _ h0
  obtain ⟨m, hm⟩ := Int.eq_ofNat_of_zero_le (show 0 ≤ l.getD 0 0 by omega)
  rw [hm] at h0
  obtain ⟨t, ht, _⟩ := least_below g h0
  exact List.length_pos_of_mem ht

theorem least_has {n : Int} {l : List Int} (g : Sets n l) (v : Nat) : hasB l (v : Int) = hasB (leastL n l) (v : Int) := by
  rw [Bool.eq_iff_iff, has_iff g, has_iff (least_sets g).1]
  constructor
  · rintro ⟨s, hs, h⟩
    obtain ⟨t, ht, hts⟩ := least_below g hs
    exact ⟨t, ht, sub_trans hts h⟩
  · rintro ⟨s, hs, h⟩
    obtain ⟨x, _, he, hb⟩ := least_mem.1 hs
    have : s = x := by omega
    subst this
    exact ⟨s, ((leastB_iff g s).1 hb).1, h⟩

theorem least_apart {n : Int} {l : List Int} (g : Sets n l) {i j : Nat} (hi : i < (leastL n l).length) (hj : j < (leastL n l).length) (hij : i ≠ j) : subB ((leastL n l).getD i 0) ((leastL n l).getD j 0) = false := by
  have hne := getD_inj (range_nodup (2 ^ n.toNat) (leastB l)) hi hj hij
  obtain ⟨x, _, hx, hbx⟩ := least_mem.1 (getD_mem hi)
  obtain ⟨y, _, hy, hby⟩ := least_mem.1 (getD_mem hj)
  have hne' : (leastL n l).getD i 0 ≠ (leastL n l).getD j 0 := hne
  have hx' : (leastL n l).getD i 0 = (x : Int) := hx
  have hy' : (leastL n l).getD j 0 = (y : Int) := hy
  have hbx' : leastB l (x : Int) = true := by rw [← hx]; exact hbx
  have hby' : leastB l (y : Int) = true := by rw [← hy]; exact hby
  rw [hx', hy'] at hne'
  rw [hx', hy']
  cases h : subB (x : Int) (y : Int) with
  | false => rfl
  | true =>
    have := ((leastB_iff g y).1 hby').2 x ((leastB_iff g x).1 hbx').1 ((subB_iff x y).1 h)
    exact absurd (by rw [this]) hne'
end Go.Proofs.YtlopkkoenfngiaaDoor

/- What the functions of this seat have to satisfy, by program: each verification condition in plain words. -/
namespace Go.Proofs.YtlopkkoenfngiaaDoor
open Go.Vc
set_option linter.unusedVariables false
theorem vcFact (k : List Dat → Prop) : vcF ⟨Et, [(13, cVotes), (18, cFull), (29, cInts)], glT, [], []⟩ [] (Tryd.f12.body.getD .skip) Tryd.f12.ntmps [(.tmp 0, .bool)] [] k = (
  True ∧ True ∧ True ∧ (decide (votesE ((((List.replicate (3 : Nat) (0 : Int)).set (0 : Nat) (1 : Int)).set (1 : Nat) (1 : Int)).set (2 : Nat) (1 : Int)) (2 : Int) = (0 : Int)) = true → (decide (chkS (3 : Int) ((((List.replicate (3 : Nat) (0 : Int)).set (0 : Nat) (3 : Int)).set (1 : Nat) (5 : Int)).set (2 : Nat) (6 : Int)) = (0 : Int)) = true → (decide (chkS (4 : Int) (((((List.replicate (4 : Nat) (0 : Int)).set (0 : Nat) (7 : Int)).set (1 : Nat) (11 : Int)).set (2 : Nat) (13 : Int)).set (3 : Nat) (14 : Int)) = (0 : Int)) = true → True ∧ ((votesL ((((List.replicate (3 : Nat) (0 : Int)).set (0 : Nat) (1 : Int)).set (1 : Nat) (1 : Int)).set (2 : Nat) (1 : Int)) (2 : Int) == (((List.replicate (3 : Nat) (0 : Int)).set (0 : Nat) (3 : Int)).set (1 : Nat) (5 : Int)).set (2 : Nat) (6 : Int)) = true → (isF (3 : Int) ((((List.replicate (3 : Nat) (0 : Int)).set (0 : Nat) (3 : Int)).set (1 : Nat) (5 : Int)).set (2 : Nat) (6 : Int)) = true → ((!isF (4 : Int) (((((List.replicate (4 : Nat) (0 : Int)).set (0 : Nat) (7 : Int)).set (1 : Nat) (11 : Int)).set (2 : Nat) (13 : Int)).set (3 : Nat) (14 : Int))) = true → k [Dat.mk Ty.bool (decide (someN (4 : Int) (((((List.replicate (4 : Nat) (0 : Int)).set (0 : Nat) (7 : Int)).set (1 : Nat) (11 : Int)).set (2 : Nat) (13 : Int)).set (3 : Nat) (14 : Int)) = (3 : Int)))]) ∧ ((!isF (4 : Int) (((((List.replicate (4 : Nat) (0 : Int)).set (0 : Nat) (7 : Int)).set (1 : Nat) (11 : Int)).set (2 : Nat) (13 : Int)).set (3 : Nat) (14 : Int))) = false → k [Dat.mk Ty.bool false])) ∧ (isF (3 : Int) ((((List.replicate (3 : Nat) (0 : Int)).set (0 : Nat) (3 : Int)).set (1 : Nat) (5 : Int)).set (2 : Nat) (6 : Int)) = false → k [Dat.mk Ty.bool false])) ∧ ((votesL ((((List.replicate (3 : Nat) (0 : Int)).set (0 : Nat) (1 : Int)).set (1 : Nat) (1 : Int)).set (2 : Nat) (1 : Int)) (2 : Int) == (((List.replicate (3 : Nat) (0 : Int)).set (0 : Nat) (3 : Int)).set (1 : Nat) (5 : Int)).set (2 : Nat) (6 : Int)) = false → k [Dat.mk Ty.bool false])) ∧ (decide (chkS (4 : Int) (((((List.replicate (4 : Nat) (0 : Int)).set (0 : Nat) (7 : Int)).set (1 : Nat) (11 : Int)).set (2 : Nat) (13 : Int)).set (3 : Nat) (14 : Int)) = (0 : Int)) = false → k [Dat.mk Ty.bool false])) ∧ (decide (chkS (3 : Int) ((((List.replicate (3 : Nat) (0 : Int)).set (0 : Nat) (3 : Int)).set (1 : Nat) (5 : Int)).set (2 : Nat) (6 : Int)) = (0 : Int)) = false → k [Dat.mk Ty.bool false])) ∧ (decide (votesE ((((List.replicate (3 : Nat) (0 : Int)).set (0 : Nat) (1 : Int)).set (1 : Nat) (1 : Int)).set (2 : Nat) (1 : Int)) (2 : Int) = (0 : Int)) = false → k [Dat.mk Ty.bool false])) := by kernel_rfl
theorem vcQV (w : List Int) (need : Int) (k : List Dat → Prop) : vcF ⟨Et, [(12, cFact), (13, cVotes), (14, cPow2), (15, cBoth), (16, cSub), (17, cSumL)], glT, [], []⟩ (anQV w need) (Tryd.f3.body.getD .skip) Tryd.f3.ntmps [(.tmp 4, .bool)] [⟨.sl I, w⟩, ⟨I, need⟩] k = (
  True ∧ ((!true) = true → k [Dat.mk Ty.bool false]) ∧ ((!true) = false → True ∧ ((!decide (votesE w need = (0 : Int))) = true → k [Dat.mk Ty.bool (decide ((↑(votesL w need).length : Int) = (0 : Int)))]) ∧ ((!decide (votesE w need = (0 : Int))) = false → (∃ (x : Nat), (x ≤ (votesL w need).length ∧ votesE w need = (0 : Int)) ∧ (w = w ∧ need = need ∧ votesL w need = votesL w need ∧ (↑w.length : Int) = (↑w.length : Int) ∧ (0 : Int) = (↑x : Int) ∧ True) ∧ True ∧ tabD = tabD ∧ True) ∧ ∀ (x : Nat), x ≤ (votesL w need).length ∧ votesE w need = (0 : Int) → (decide ((↑x : Int) < (↑(votesL w need).length : Int)) = true → ((0 : Int) ≤ (↑x : Int) ∧ (↑x : Int) < (↑(votesL w need).length : Int) ∧ (decide ((votesL w need).getD (↑x : Int).toNat (0 : Int) < (1 : Int)) = true → True) ∧ (decide ((votesL w need).getD (↑x : Int).toNat (0 : Int) < (1 : Int)) = false → (0 : Int) ≤ (↑x : Int) ∧ (↑x : Int) < (↑(votesL w need).length : Int) ∧ ((↑w.length : Int) ≤ (61 : Int) ∧ True) ∧ True)) ∧ ((decide ((votesL w need).getD (↑x : Int).toNat (0 : Int) < (1 : Int)) || decide ((2 : Int) ^ (↑w.length : Int).toNat ≤ (votesL w need).getD (↑x : Int).toNat (0 : Int))) = true → k [Dat.mk Ty.bool false]) ∧ ((decide ((votesL w need).getD (↑x : Int).toNat (0 : Int) < (1 : Int)) || decide ((2 : Int) ^ (↑w.length : Int).toNat ≤ (votesL w need).getD (↑x : Int).toNat (0 : Int))) = false → (∃ (x_1 : Nat), ((↑x_1 : Int) ≤ (↑x : Int) ∧ True) ∧ (w = w ∧ need = need ∧ votesL w need = votesL w need ∧ (↑w.length : Int) = (↑w.length : Int) ∧ (↑x : Int) = (↑x : Int) ∧ (0 : Int) = (↑x_1 : Int) ∧ True) ∧ True ∧ tabD = tabD ∧ True) ∧ ∀ (x_1 : Nat), (↑x_1 : Int) ≤ (↑x : Int) ∧ True → (decide ((↑x_1 : Int) < (↑x : Int)) = true → ((0 : Int) ≤ (↑x : Int) ∧ (↑x : Int) < (↑(votesL w need).length : Int) ∧ (0 : Int) ≤ (↑x_1 : Int) ∧ (↑x_1 : Int) < (↑(votesL w need).length : Int) ∧ ((votesL w need).getD (↑x : Int).toNat (0 : Int) < (2305843009213693952 : Int) ∧ True) ∧ (decide ((↑(((votesL w need).getD (↑x : Int).toNat (0 : Int)).toNat &&& ((votesL w need).getD (↑x_1 : Int).toNat (0 : Int)).toNat) : Int) = (0 : Int)) = true → True) ∧ (decide ((↑(((votesL w need).getD (↑x : Int).toNat (0 : Int)).toNat &&& ((votesL w need).getD (↑x_1 : Int).toNat (0 : Int)).toNat) : Int) = (0 : Int)) = false → (0 : Int) ≤ (↑x : Int) ∧ (↑x : Int) < (↑(votesL w need).length : Int) ∧ (0 : Int) ≤ (↑x_1 : Int) ∧ (↑x_1 : Int) < (↑(votesL w need).length : Int) ∧ True ∧ (subB ((votesL w need).getD (↑x : Int).toNat (0 : Int)) ((votesL w need).getD (↑x_1 : Int).toNat (0 : Int)) = true → True) ∧ (subB ((votesL w need).getD (↑x : Int).toNat (0 : Int)) ((votesL w need).getD (↑x_1 : Int).toNat (0 : Int)) = false → (0 : Int) ≤ (↑x_1 : Int) ∧ (↑x_1 : Int) < (↑(votesL w need).length : Int) ∧ (0 : Int) ≤ (↑x : Int) ∧ (↑x : Int) < (↑(votesL w need).length : Int) ∧ True ∧ True))) ∧ ((decide ((↑(((votesL w need).getD (↑x : Int).toNat (0 : Int)).toNat &&& ((votesL w need).getD (↑x_1 : Int).toNat (0 : Int)).toNat) : Int) = (0 : Int)) || (subB ((votesL w need).getD (↑x : Int).toNat (0 : Int)) ((votesL w need).getD (↑x_1 : Int).toNat (0 : Int)) || subB ((votesL w need).getD (↑x_1 : Int).toNat (0 : Int)) ((votesL w need).getD (↑x : Int).toNat (0 : Int)))) = true → k [Dat.mk Ty.bool false]) ∧ ((decide ((↑(((votesL w need).getD (↑x : Int).toNat (0 : Int)).toNat &&& ((votesL w need).getD (↑x_1 : Int).toNat (0 : Int)).toNat) : Int) = (0 : Int)) || (subB ((votesL w need).getD (↑x : Int).toNat (0 : Int)) ((votesL w need).getD (↑x_1 : Int).toNat (0 : Int)) || subB ((votesL w need).getD (↑x_1 : Int).toNat (0 : Int)) ((votesL w need).getD (↑x : Int).toNat (0 : Int)))) = false → inK IntKind.i64 ((↑x_1 : Int) + (1 : Int)) ∧ ∃ (x_2 : Nat), ((↑x_2 : Int) ≤ (↑x : Int) ∧ True) ∧ (votesL w need).length - x_2 < (votesL w need).length - x_1 ∧ (w = w ∧ need = need ∧ votesL w need = votesL w need ∧ (↑w.length : Int) = (↑w.length : Int) ∧ (↑x : Int) = (↑x : Int) ∧ (↑x_1 : Int) + (1 : Int) = (↑x_2 : Int) ∧ True) ∧ True ∧ tabD = tabD ∧ True)) ∧ (decide ((↑x_1 : Int) < (↑x : Int)) = false → inK IntKind.i64 ((↑x : Int) + (1 : Int)) ∧ ∃ (x_2 : Nat), (x_2 ≤ (votesL w need).length ∧ votesE w need = (0 : Int)) ∧ (votesL w need).length - x_2 < (votesL w need).length - x ∧ (w = w ∧ need = need ∧ votesL w need = votesL w need ∧ (↑w.length : Int) = (↑w.length : Int) ∧ (↑x : Int) + (1 : Int) = (↑x_2 : Int) ∧ True) ∧ True ∧ tabD = tabD ∧ True))) ∧ (decide ((↑x : Int) < (↑(votesL w need).length : Int)) = false → (decide ((↑(votesL w need).length : Int) = (0 : Int)) = true → k [Dat.mk Ty.bool false]) ∧ (decide ((↑(votesL w need).length : Int) = (0 : Int)) = false → inK IntKind.i64 (need + (1 : Int)) ∧ True ∧ ((!decide (votesE w (need + (1 : Int)) = (0 : Int))) = true → ((∀ (x : Int), x ∈ w → (0 : Int) ≤ x ∧ x ≤ (20 : Int)) ∧ w.length ≤ (8 : Nat)) ∧ k [Dat.mk Ty.bool (decide (w.sum ≤ need))]) ∧ ((!decide (votesE w (need + (1 : Int)) = (0 : Int))) = false → (∃ (x : Nat), (x ≤ (votesL w (need + (1 : Int))).length ∧ votesE w need = (0 : Int) ∧ votesE w (need + (1 : Int)) = (0 : Int)) ∧ (votesL w need = votesL w need ∧ votesL w (need + (1 : Int)) = votesL w (need + (1 : Int)) ∧ (0 : Int) = (↑x : Int) ∧ True) ∧ True ∧ tabD = tabD ∧ True) ∧ ∀ (x : Nat), x ≤ (votesL w (need + (1 : Int))).length ∧ votesE w need = (0 : Int) ∧ votesE w (need + (1 : Int)) = (0 : Int) → (decide ((↑x : Int) < (↑(votesL w (need + (1 : Int))).length : Int)) = true → (∃ (x_1 : Nat), (x_1 ≤ (votesL w need).length ∧ True) ∧ (votesL w need = votesL w need ∧ votesL w (need + (1 : Int)) = votesL w (need + (1 : Int)) ∧ (↑x : Int) = (↑x : Int) ∧ false = someB (votesL w need) ((votesL w (need + (1 : Int))).getD (↑x : Int).toNat (0 : Int)) x_1 ∧ (0 : Int) = (↑x_1 : Int) ∧ True) ∧ True ∧ tabD = tabD ∧ True) ∧ ∀ (x_1 : Nat), x_1 ≤ (votesL w need).length ∧ True → (decide ((↑x_1 : Int) < (↑(votesL w need).length : Int)) = true → ((someB (votesL w need) ((votesL w (need + (1 : Int))).getD (↑x : Int).toNat (0 : Int)) x_1 = true → True) ∧ (someB (votesL w need) ((votesL w (need + (1 : Int))).getD (↑x : Int).toNat (0 : Int)) x_1 = false → (0 : Int) ≤ (↑x : Int) ∧ (↑x : Int) < (↑(votesL w (need + (1 : Int))).length : Int) ∧ (decide ((0 : Int) < (votesL w (need + (1 : Int))).getD (↑x : Int).toNat (0 : Int)) = true → (0 : Int) ≤ (↑x_1 : Int) ∧ (↑x_1 : Int) < (↑(votesL w need).length : Int) ∧ (0 : Int) ≤ (↑x : Int) ∧ (↑x : Int) < (↑(votesL w (need + (1 : Int))).length : Int) ∧ True ∧ True) ∧ (decide ((0 : Int) < (votesL w (need + (1 : Int))).getD (↑x : Int).toNat (0 : Int)) = false → True))) ∧ inK IntKind.i64 ((↑x_1 : Int) + (1 : Int)) ∧ ∃ (x_2 : Nat), (x_2 ≤ (votesL w need).length ∧ True) ∧ (votesL w need).length - x_2 < (votesL w need).length - x_1 ∧ (votesL w need = votesL w need ∧ votesL w (need + (1 : Int)) = votesL w (need + (1 : Int)) ∧ (↑x : Int) = (↑x : Int) ∧ (someB (votesL w need) ((votesL w (need + (1 : Int))).getD (↑x : Int).toNat (0 : Int)) x_1 || decide ((0 : Int) < (votesL w (need + (1 : Int))).getD (↑x : Int).toNat (0 : Int)) && subB ((votesL w need).getD (↑x_1 : Int).toNat (0 : Int)) ((votesL w (need + (1 : Int))).getD (↑x : Int).toNat (0 : Int))) = someB (votesL w need) ((votesL w (need + (1 : Int))).getD (↑x : Int).toNat (0 : Int)) x_2 ∧ (↑x_1 : Int) + (1 : Int) = (↑x_2 : Int) ∧ True) ∧ True ∧ tabD = tabD ∧ True) ∧ (decide ((↑x_1 : Int) < (↑(votesL w need).length : Int)) = false → ((!someB (votesL w need) ((votesL w (need + (1 : Int))).getD (↑x : Int).toNat (0 : Int)) x_1) = true → k [Dat.mk Ty.bool false]) ∧ ((!someB (votesL w need) ((votesL w (need + (1 : Int))).getD (↑x : Int).toNat (0 : Int)) x_1) = false → inK IntKind.i64 ((↑x : Int) + (1 : Int)) ∧ ∃ (x_2 : Nat), (x_2 ≤ (votesL w (need + (1 : Int))).length ∧ votesE w need = (0 : Int) ∧ votesE w (need + (1 : Int)) = (0 : Int)) ∧ (votesL w (need + (1 : Int))).length - x_2 < (votesL w (need + (1 : Int))).length - x ∧ (votesL w need = votesL w need ∧ votesL w (need + (1 : Int)) = votesL w (need + (1 : Int)) ∧ (↑x : Int) + (1 : Int) = (↑x_2 : Int) ∧ True) ∧ True ∧ tabD = tabD ∧ True))) ∧ (decide ((↑x : Int) < (↑(votesL w (need + (1 : Int))).length : Int)) = false → k [Dat.mk Ty.bool true]))))))) := by kernel_rfl
theorem vcQF (n : Int) (l o : List Int) (k : List Dat → Prop) : vcF ⟨Et, [(12, cFact), (18, cFull), (19, cHas), (20, cCheck), (14, cPow2), (15, cBoth)], glT, [], []⟩ (anQF n l o) (Tryd.f4.body.getD .skip) Tryd.f4.ntmps [(.tmp 6, .bool)] [⟨I, n⟩, ⟨.sl I, l⟩, ⟨.sl I, o⟩] k = (
  True ∧ ((!true) = true → k [Dat.mk Ty.bool false]) ∧ ((!true) = false → True ∧ ((!decide (chkS n l = (0 : Int))) = true → ((!isF n l) = true → k [Dat.mk Ty.bool (decide (someN n l = (0 : Int)))]) ∧ ((!isF n l) = false → k [Dat.mk Ty.bool false])) ∧ ((!decide (chkS n l = (0 : Int))) = false → ((!isF n l) = true → (decide (someN n l < (0 : Int)) = true → k [Dat.mk Ty.bool false]) ∧ (decide (someN n l < (0 : Int)) = false → (n ≤ (61 : Int) ∧ True) ∧ (decide ((2 : Int) ^ n.toNat ≤ someN n l) = true → k [Dat.mk Ty.bool false]) ∧ (decide ((2 : Int) ^ n.toNat ≤ someN n l) = false → True ∧ (∃ (x : Nat), (x ≤ l.length ∧ chkS n l = (0 : Int) ∧ isF n l = false) ∧ (n = n ∧ l = l ∧ o = o ∧ someN n l = someN n l ∧ ((if hasE n l (someN n l) = (0 : Int) then hasB l (someN n l) else false) = if hasE n l (someN n l) = (0 : Int) then hasB l (someN n l) else false) ∧ hasE n l (someN n l) = hasE n l (someN n l) ∧ (0 : Int) = (↑x : Int) ∧ True) ∧ True ∧ tabD = tabD ∧ True) ∧ ∀ (x : Nat), x ≤ l.length ∧ chkS n l = (0 : Int) ∧ isF n l = false → (decide ((↑x : Int) < (↑l.length : Int)) = true → (0 : Int) ≤ (↑x : Int) ∧ (↑x : Int) < (↑l.length : Int) ∧ (l.getD (↑x : Int).toNat (0 : Int) < (2305843009213693952 : Int) ∧ True) ∧ (decide ((↑((l.getD (↑x : Int).toNat (0 : Int)).toNat &&& (someN n l).toNat) : Int) = (0 : Int)) = true → k [Dat.mk Ty.bool false]) ∧ (decide ((↑((l.getD (↑x : Int).toNat (0 : Int)).toNat &&& (someN n l).toNat) : Int) = (0 : Int)) = false → inK IntKind.i64 ((↑x : Int) + (1 : Int)) ∧ ∃ (x_1 : Nat), (x_1 ≤ l.length ∧ chkS n l = (0 : Int) ∧ isF n l = false) ∧ l.length - x_1 < l.length - x ∧ (n = n ∧ l = l ∧ o = o ∧ someN n l = someN n l ∧ ((if hasE n l (someN n l) = (0 : Int) then hasB l (someN n l) else false) = if hasE n l (someN n l) = (0 : Int) then hasB l (someN n l) else false) ∧ hasE n l (someN n l) = hasE n l (someN n l) ∧ (↑x : Int) + (1 : Int) = (↑x_1 : Int) ∧ True) ∧ True ∧ tabD = tabD ∧ True)) ∧ (decide ((↑x : Int) < (↑l.length : Int)) = false → (decide (hasE n l (someN n l) = (0 : Int)) = true → k [Dat.mk Ty.bool !if hasE n l (someN n l) = (0 : Int) then hasB l (someN n l) else false]) ∧ (decide (hasE n l (someN n l) = (0 : Int)) = false → k [Dat.mk Ty.bool false]))))) ∧ ((!isF n l) = false → True ∧ ((!decide (chkS n o = (0 : Int))) = true → k [Dat.mk Ty.bool true]) ∧ ((!decide (chkS n o = (0 : Int))) = false → (∃ (x : Nat), (x ≤ l.length ∧ chkS n l = (0 : Int) ∧ isF n l = true ∧ chkS n o = (0 : Int) ∧ ∀ (j : Nat), j < x → hasB o (l.getD j (0 : Int)) = true) ∧ (n = n ∧ l = l ∧ o = o ∧ (0 : Int) = (↑x : Int) ∧ True) ∧ True ∧ tabD = tabD ∧ True) ∧ ∀ (x : Nat), (x ≤ l.length ∧ chkS n l = (0 : Int) ∧ isF n l = true ∧ chkS n o = (0 : Int) ∧ ∀ (j : Nat), j < x → hasB o (l.getD j (0 : Int)) = true) → (decide ((↑x : Int) < (↑l.length : Int)) = true → (0 : Int) ≤ (↑x : Int) ∧ (↑x : Int) < (↑l.length : Int) ∧ True ∧ ((!decide (hasE n o (l.getD (↑x : Int).toNat (0 : Int)) = (0 : Int))) = true → k [Dat.mk Ty.bool false]) ∧ ((!decide (hasE n o (l.getD (↑x : Int).toNat (0 : Int)) = (0 : Int))) = false → ((!if hasE n o (l.getD (↑x : Int).toNat (0 : Int)) = (0 : Int) then hasB o (l.getD (↑x : Int).toNat (0 : Int)) else false) = true → k [Dat.mk Ty.bool true]) ∧ ((!if hasE n o (l.getD (↑x : Int).toNat (0 : Int)) = (0 : Int) then hasB o (l.getD (↑x : Int).toNat (0 : Int)) else false) = false → inK IntKind.i64 ((↑x : Int) + (1 : Int)) ∧ ∃ (x_1 : Nat), (x_1 ≤ l.length ∧ chkS n l = (0 : Int) ∧ isF n l = true ∧ chkS n o = (0 : Int) ∧ ∀ (j : Nat), j < x_1 → hasB o (l.getD j (0 : Int)) = true) ∧ l.length - x_1 < l.length - x ∧ (n = n ∧ l = l ∧ o = o ∧ (↑x : Int) + (1 : Int) = (↑x_1 : Int) ∧ True) ∧ True ∧ tabD = tabD ∧ True))) ∧ (decide ((↑x : Int) < (↑l.length : Int)) = false → (∃ (x : Nat), (x ≤ o.length ∧ chkS n l = (0 : Int) ∧ isF n l = true ∧ chkS n o = (0 : Int) ∧ ∀ (j : Nat), j < l.length → hasB o (l.getD j (0 : Int)) = true) ∧ (n = n ∧ l = l ∧ o = o ∧ (0 : Int) = (↑x : Int) ∧ True) ∧ True ∧ tabD = tabD ∧ True) ∧ ∀ (x : Nat), (x ≤ o.length ∧ chkS n l = (0 : Int) ∧ isF n l = true ∧ chkS n o = (0 : Int) ∧ ∀ (j : Nat), j < l.length → hasB o (l.getD j (0 : Int)) = true) → (decide ((↑x : Int) < (↑o.length : Int)) = true → (0 : Int) ≤ (↑x : Int) ∧ (↑x : Int) < (↑o.length : Int) ∧ True ∧ ((!decide (hasE n l (o.getD (↑x : Int).toNat (0 : Int)) = (0 : Int))) = true → k [Dat.mk Ty.bool false]) ∧ ((!decide (hasE n l (o.getD (↑x : Int).toNat (0 : Int)) = (0 : Int))) = false → ((!if hasE n l (o.getD (↑x : Int).toNat (0 : Int)) = (0 : Int) then hasB l (o.getD (↑x : Int).toNat (0 : Int)) else false) = true → k [Dat.mk Ty.bool false]) ∧ ((!if hasE n l (o.getD (↑x : Int).toNat (0 : Int)) = (0 : Int) then hasB l (o.getD (↑x : Int).toNat (0 : Int)) else false) = false → inK IntKind.i64 ((↑x : Int) + (1 : Int)) ∧ ∃ (x_1 : Nat), (x_1 ≤ o.length ∧ chkS n l = (0 : Int) ∧ isF n l = true ∧ chkS n o = (0 : Int) ∧ ∀ (j : Nat), j < l.length → hasB o (l.getD j (0 : Int)) = true) ∧ o.length - x_1 < o.length - x ∧ (n = n ∧ l = l ∧ o = o ∧ (↑x : Int) + (1 : Int) = (↑x_1 : Int) ∧ True) ∧ True ∧ tabD = tabD ∧ True))) ∧ (decide ((↑x : Int) < (↑o.length : Int)) = false → k [Dat.mk Ty.bool true]))))))) := by kernel_rfl
theorem vcQL (n : Int) (l : List Int) (v : Int) (k : List Dat → Prop) : vcF ⟨Et, [(12, cFact), (21, cLeast), (19, cHas), (20, cCheck), (16, cSub)], glT, [], []⟩ (anQL n l) (Tryd.f5.body.getD .skip) Tryd.f5.ntmps [(.tmp 6, .bool)] [⟨I, n⟩, ⟨.sl I, l⟩, ⟨I, v⟩] k = (
  True ∧ ((!true) = true → k [Dat.mk Ty.bool false]) ∧ ((!true) = false → True ∧ ((!decide (chkS n l = (0 : Int))) = true → k [Dat.mk Ty.bool (decide ((↑(if chkS n l = (0 : Int) then leastU l ((2 : Nat) ^ n.toNat) else []).length : Int) = (0 : Int)))]) ∧ ((!decide (chkS n l = (0 : Int))) = false → True ∧ ((!decide (chkS n (if chkS n l = (0 : Int) then leastU l ((2 : Nat) ^ n.toNat) else []) = (0 : Int))) = true → k [Dat.mk Ty.bool false]) ∧ ((!decide (chkS n (if chkS n l = (0 : Int) then leastU l ((2 : Nat) ^ n.toNat) else []) = (0 : Int))) = false → (decide ((↑l.length : Int) < (↑(if chkS n l = (0 : Int) then leastU l ((2 : Nat) ^ n.toNat) else []).length : Int)) = true → k [Dat.mk Ty.bool false]) ∧ (decide ((↑l.length : Int) < (↑(if chkS n l = (0 : Int) then leastU l ((2 : Nat) ^ n.toNat) else []).length : Int)) = false → (∃ (x : Nat), (x ≤ (leastL n l).length ∧ chkS n l = (0 : Int)) ∧ (n = n ∧ l = l ∧ v = v ∧ ((if chkS n l = (0 : Int) then leastU l ((2 : Nat) ^ n.toNat) else []) = if chkS n l = (0 : Int) then leastU l ((2 : Nat) ^ n.toNat) else []) ∧ (0 : Int) = (↑x : Int) ∧ True) ∧ True ∧ tabD = tabD ∧ True) ∧ ∀ (x : Nat), x ≤ (leastL n l).length ∧ chkS n l = (0 : Int) → (decide ((↑x : Int) < (↑(if chkS n l = (0 : Int) then leastU l ((2 : Nat) ^ n.toNat) else []).length : Int)) = true → (∃ (x_1 : Nat), (x_1 ≤ (leastL n l).length ∧ True) ∧ (n = n ∧ l = l ∧ v = v ∧ ((if chkS n l = (0 : Int) then leastU l ((2 : Nat) ^ n.toNat) else []) = if chkS n l = (0 : Int) then leastU l ((2 : Nat) ^ n.toNat) else []) ∧ (↑x : Int) = (↑x : Int) ∧ (0 : Int) = (↑x_1 : Int) ∧ True) ∧ True ∧ tabD = tabD ∧ True) ∧ ∀ (x_1 : Nat), x_1 ≤ (leastL n l).length ∧ True → (decide ((↑x_1 : Int) < (↑(if chkS n l = (0 : Int) then leastU l ((2 : Nat) ^ n.toNat) else []).length : Int)) = true → (((!decide ((↑x : Int) = (↑x_1 : Int))) = true → (0 : Int) ≤ (↑x : Int) ∧ (↑x : Int) < (↑(if chkS n l = (0 : Int) then leastU l ((2 : Nat) ^ n.toNat) else []).length : Int) ∧ (0 : Int) ≤ (↑x_1 : Int) ∧ (↑x_1 : Int) < (↑(if chkS n l = (0 : Int) then leastU l ((2 : Nat) ^ n.toNat) else []).length : Int) ∧ True ∧ True) ∧ ((!decide ((↑x : Int) = (↑x_1 : Int))) = false → True)) ∧ ((!decide ((↑x : Int) = (↑x_1 : Int)) && subB ((if chkS n l = (0 : Int) then leastU l ((2 : Nat) ^ n.toNat) else []).getD (↑x : Int).toNat (0 : Int)) ((if chkS n l = (0 : Int) then leastU l ((2 : Nat) ^ n.toNat) else []).getD (↑x_1 : Int).toNat (0 : Int))) = true → k [Dat.mk Ty.bool false]) ∧ ((!decide ((↑x : Int) = (↑x_1 : Int)) && subB ((if chkS n l = (0 : Int) then leastU l ((2 : Nat) ^ n.toNat) else []).getD (↑x : Int).toNat (0 : Int)) ((if chkS n l = (0 : Int) then leastU l ((2 : Nat) ^ n.toNat) else []).getD (↑x_1 : Int).toNat (0 : Int))) = false → inK IntKind.i64 ((↑x_1 : Int) + (1 : Int)) ∧ ∃ (x_2 : Nat), (x_2 ≤ (leastL n l).length ∧ True) ∧ (leastL n l).length - x_2 < (leastL n l).length - x_1 ∧ (n = n ∧ l = l ∧ v = v ∧ ((if chkS n l = (0 : Int) then leastU l ((2 : Nat) ^ n.toNat) else []) = if chkS n l = (0 : Int) then leastU l ((2 : Nat) ^ n.toNat) else []) ∧ (↑x : Int) = (↑x : Int) ∧ (↑x_1 : Int) + (1 : Int) = (↑x_2 : Int) ∧ True) ∧ True ∧ tabD = tabD ∧ True)) ∧ (decide ((↑x_1 : Int) < (↑(if chkS n l = (0 : Int) then leastU l ((2 : Nat) ^ n.toNat) else []).length : Int)) = false → inK IntKind.i64 ((↑x : Int) + (1 : Int)) ∧ ∃ (x_2 : Nat), (x_2 ≤ (leastL n l).length ∧ chkS n l = (0 : Int)) ∧ (leastL n l).length - x_2 < (leastL n l).length - x ∧ (n = n ∧ l = l ∧ v = v ∧ ((if chkS n l = (0 : Int) then leastU l ((2 : Nat) ^ n.toNat) else []) = if chkS n l = (0 : Int) then leastU l ((2 : Nat) ^ n.toNat) else []) ∧ (↑x : Int) + (1 : Int) = (↑x_2 : Int) ∧ True) ∧ True ∧ tabD = tabD ∧ True)) ∧ (decide ((↑x : Int) < (↑(if chkS n l = (0 : Int) then leastU l ((2 : Nat) ^ n.toNat) else []).length : Int)) = false → True ∧ True ∧ (((decide (hasE n l v = (0 : Int)) == decide (hasE n (if chkS n l = (0 : Int) then leastU l ((2 : Nat) ^ n.toNat) else []) v = (0 : Int))) = true → True) ∧ ((decide (hasE n l v = (0 : Int)) == decide (hasE n (if chkS n l = (0 : Int) then leastU l ((2 : Nat) ^ n.toNat) else []) v = (0 : Int))) = false → True)) ∧ k [Dat.mk Ty.bool (decide (hasE n l v = (0 : Int)) == decide (hasE n (if chkS n l = (0 : Int) then leastU l ((2 : Nat) ^ n.toNat) else []) v = (0 : Int)) && (if hasE n l v = (0 : Int) then hasB l v else false) == if hasE n (if chkS n l = (0 : Int) then leastU l ((2 : Nat) ^ n.toNat) else []) v = (0 : Int) then hasB (if chkS n l = (0 : Int) then leastU l ((2 : Nat) ^ n.toNat) else []) v else false)])))))) := by kernel_rfl
end Go.Proofs.YtlopkkoenfngiaaDoor

/- Quorums: the closed fact; the laws of what is full, and of the least ones. -/
namespace Go.Proofs.YtlopkkoenfngiaaDoor
open Go.Vc

theorem okFact : PlainOk Tryd.prog glT 12 cFact := by
  refine plain_of (CxOk.mk' Et_ok rfl mixed (gl := glT) (GOk.cons okVotes Tryd.func13 (by kernel_rfl) (by kernel_rfl) (GOk.cons okFull Tryd.func18 (by kernel_rfl) (by kernel_rfl) (GOk.cons okInts Tryd.func29 (by kernel_rfl) (by kernel_rfl) GOk.nil))) GoOk.nil noIt) Tryd.func12 (c := Tryd.f12.body.getD .skip) (rvs := [(.tmp 0, .bool)]) (by kernel_rfl) (by kernel_rfl) (by kernel_rfl) ?_
  intro ds k ⟨hp, hk⟩ hwf
  obtain ⟨rfl, -⟩ := dest0 hp
  have hk : k [⟨.bool, true⟩] := hk
  refine ⟨[], ?_⟩
  rw [vcFact]
  have l1 : (((List.replicate 3 (0 : Int)).set 0 1).set 1 1).set 2 1 = [1, 1, 1] := rfl
  have l2 : (((List.replicate 3 (0 : Int)).set 0 3).set 1 5).set 2 6 = [3, 5, 6] := rfl
  have l3 : ((((List.replicate 4 (0 : Int)).set 0 7).set 1 11).set 2 13).set 3 14 = [7, 11, 13, 14] := rfl
  have e1 : votesE [1, 1, 1] 2 = 0 := by decide +kernel
  have e2 : chkS 3 [3, 5, 6] = 0 := by decide +kernel
  have e3 : chkS 4 [7, 11, 13, 14] = 0 := by decide +kernel
  have e4 : (votesL [1, 1, 1] 2 == [3, 5, 6]) = true := by decide +kernel
  have e5 : isF 3 [3, 5, 6] = true := by decide +kernel
  have e6 : isF 4 [7, 11, 13, 14] = false := by decide +kernel
  have e7 : decide (someN 4 [7, 11, 13, 14] = 3) = true := by decide +kernel
  simp only [l1, l2, l3, e1, e2, e3, e4, e5, e6, e7]
  exact ⟨trivial, trivial, trivial, fun _ => ⟨fun _ => ⟨fun _ => ⟨trivial, fun _ => ⟨fun _ => ⟨fun _ => hk, fun h => by cases h⟩, fun h => by cases h⟩, fun h => by cases h⟩, fun h => by cases h⟩, fun h => by cases h⟩, fun h => by cases h⟩

theorem qf_vc (n : Int) (l o : List Int) (k : List Dat → Prop) (hll : l.length ≤ maxLen) (hol : o.length ≤ maxLen) (hk : k [⟨.bool, true⟩]) :
    vcF ⟨Et, [(12, cFact), (18, cFull), (19, cHas), (20, cCheck), (14, cPow2), (15, cBoth)], glT, [], []⟩ (anQF n l o) (Tryd.f4.body.getD .skip) Tryd.f4.ntmps [(.tmp 6, .bool)] [⟨I, n⟩, ⟨.sl I, l⟩, ⟨.sl I, o⟩] k := by
  rw [vcQF]
  have hml : maxLen ≤ 9223372036854775807 := by decide
  refine ⟨trivial, (fun h => by cases h), fun _ => ⟨trivial, fun hc => ?_, fun hc => ?_⟩⟩
  · have hc : chkS n l ≠ 0 := by simpa using hc
    have e : fullO n l = some 0 := by unfold fullO; rw [if_neg hc]
    have e1 : isF n l = false := by unfold isF; rw [e]; rfl
    have e2 : someN n l = 0 := by unfold someN; rw [e]; rfl
    rw [e1, e2]
    exact ⟨fun _ => hk, fun h => by cases h⟩
  · have hc : chkS n l = 0 := by simpa using hc
    have g := sets_of hc
    have hn := g.rng
    have small : ∀ x : Nat, x < 2 ^ n.toNat → x < 256 := fun x hx => Nat.lt_of_lt_of_le hx (pow8 hn.2)
    refine ⟨fun hf => ?_, fun hf => ?_⟩
    · have hf : isF n l = false := by simpa using hf
      obtain ⟨x, hx, hxl, hne⟩ := notfull hc hf
      have hpc := powC n.toNat
      have hmask : maskB (x : Int) n = true := mask_mk (by omega) (by rw [hpc]; omega)
      have hE : hasE n l (x : Int) = 0 := by unfold hasE; rw [if_pos hc, if_pos hmask]
      have hno : hasB l (x : Int) = false := by
        unfold neither at hne
        rw [Bool.and_eq_true, Bool.not_eq_true'] at hne
        exact hne.1
      rw [hx]
      simp only [hE, hno, hc, hf, decide_eq_true_eq, decide_eq_false_iff_not, and_true, true_and, if_true, Int.toNat_natCast]
      refine ⟨fun h => absurd h (by omega), fun _ => ⟨by omega, fun h => absurd h (by rw [hpc]; omega), fun _ => ⟨⟨0, by omega, rfl⟩, fun y hy => ⟨fun hlt => ?_, fun _ => ⟨fun _ => hk, fun h => absurd trivial h⟩⟩⟩⟩⟩
      have hyl : y < l.length := by omega
      have hm := getD_mem hyl
      have hmm := g.mem _ hm
      obtain ⟨s, hs⟩ := Int.eq_ofNat_of_zero_le (show 0 ≤ l.getD y 0 by omega)
      rw [hs] at hm hmm ⊢
      have h1 := meets_some g hne hm
      have h2 := small s (by rw [hpc] at hmm; omega)
      refine ⟨by omega, hlt, by omega, fun h => absurd h ?_, fun _ => ⟨inK_i64.2 (by omega), y + 1, by omega, by omega, by omega⟩⟩
      rw [Int.toNat_natCast]
      omega
    · have hf : isF n l = true := by simpa using hf
      simp only [hc, hf, decide_eq_true_eq, decide_eq_false_iff_not, and_true, true_and, Bool.not_eq_true', Bool.not_eq_false', Int.toNat_natCast]
      refine ⟨fun _ => hk, fun ho => ?_⟩
      have go := sets_of ho
      simp only [ho, true_and]
      have hasE0 : ∀ (a b : List Int), Sets n a → chkS n b = 0 → ∀ j, j < a.length → hasE n b (a.getD j 0) = 0 := by
        intro a b ga hb j hj
        have hm := ga.mem _ (getD_mem hj)
        unfold hasE
        rw [if_pos hb, if_pos (mask_mk (by omega) hm.2)]
      refine ⟨⟨0, ⟨by omega, fun j hj => by omega⟩, by omega⟩, fun x ⟨hx, hall⟩ => ⟨fun hlt => ?_, fun hge => ?_⟩⟩
      · have hE := hasE0 l o g ho x (by omega)
        rw [hE]
        refine ⟨by omega, hlt, fun h => absurd rfl h, fun _ => ⟨fun _ => hk, fun hb => ⟨inK_i64.2 (by omega), x + 1, ⟨by omega, fun j hj => ?_⟩, by omega, by omega⟩⟩⟩
        rcases Nat.lt_or_ge j x with h1 | h1
        · exact hall j h1
        · have : j = x := by omega
          subst this
          rw [if_pos rfl] at hb; exact hb
      · have hall' : ∀ j, j < l.length → hasB o (l.getD j 0) = true := fun j hj => hall j (by omega)
        refine ⟨⟨0, ⟨by omega, hall'⟩, by omega⟩, fun y ⟨hy, _⟩ => ⟨fun hlt => ?_, fun _ => hk⟩⟩
        have hE := hasE0 o l go hc y (by omega)
        rw [hE]
        have hm := getD_mem (l := o) (i := y) (by omega)
        have hmm := go.mem _ hm
        obtain ⟨s, hs⟩ := Int.eq_ofNat_of_zero_le (show 0 ≤ o.getD y 0 by omega)
        have hB : hasB l (o.getD y 0) = true := by
          rw [hs] at hm ⊢
          exact full_other g go hc hf hall' hm
        rw [hB]
        exact ⟨by omega, hlt, fun h => absurd rfl h, fun _ => ⟨(fun h => by cases h), fun _ => ⟨inK_i64.2 (by omega), y + 1, ⟨by omega, hall'⟩, by omega, by omega⟩⟩⟩

theorem okQF : PlainOk Tryd.prog glT 4 cLawF := by
  refine plain_of (CxOk.mk' Et_ok rfl mixed (gl := glT) (GOk.cons okFact Tryd.func12 (by kernel_rfl) (by kernel_rfl) (GOk.cons okFull Tryd.func18 (by kernel_rfl) (by kernel_rfl) (GOk.cons okHas Tryd.func19 (by kernel_rfl) (by kernel_rfl) (GOk.cons okCheck Tryd.func20 (by kernel_rfl) (by kernel_rfl) (GOk.cons okPow2 Tryd.func14 (by kernel_rfl) (by kernel_rfl) (GOk.cons okBoth Tryd.func15 (by kernel_rfl) (by kernel_rfl) GOk.nil)))))) GoOk.nil noIt) Tryd.func4 (c := Tryd.f4.body.getD .skip) (rvs := [(.tmp 6, .bool)]) (by kernel_rfl) (by kernel_rfl) (by kernel_rfl) ?_
  intro ds k ⟨hp, hk⟩ hwf
  obtain ⟨n, l, o, rfl, -⟩ := dest3 hp
  exact ⟨anQF n l o, qf_vc n l o k (wf3 hwf).2.1.1 (wf3 hwf).2.2.1 hk⟩

theorem ql_vc (n : Int) (l : List Int) (v : Int) (k : List Dat → Prop) (hk : k [⟨.bool, true⟩]) :
    vcF ⟨Et, [(12, cFact), (21, cLeast), (19, cHas), (20, cCheck), (16, cSub)], glT, [], []⟩ (anQL n l) (Tryd.f5.body.getD .skip) Tryd.f5.ntmps [(.tmp 6, .bool)] [⟨I, n⟩, ⟨.sl I, l⟩, ⟨I, v⟩] k := by
  rw [vcQL]
  refine ⟨trivial, (fun h => by cases h), fun _ => ⟨trivial, fun hc => ?_, fun hc => ?_⟩⟩
  · have hc : chkS n l ≠ 0 := by simpa using hc
    rw [if_neg hc]
    exact hk
  · have hc : chkS n l = 0 := by simpa using hc
    have g := sets_of hc
    obtain ⟨gL, hlen⟩ := least_sets g
    have hn := g.len
    have hif : (if chkS n l = 0 then leastU l (2 ^ n.toNat) else []) = leastL n l := if_pos hc
    have hcL := chk_mk gL
    simp only [hif]
    have hEE : hasE n (leastL n l) v = hasE n l v := by unfold hasE; rw [hc, hcL]
    have hBB : (if hasE n l v = 0 then hasB l v else false) = if hasE n l v = 0 then hasB (leastL n l) v else false := by
      by_cases h0 : hasE n l v = 0
      · rw [if_pos h0, if_pos h0]
        have hm : maskB v n = true := by
          unfold hasE at h0
          rw [if_pos hc] at h0
          split at h0
          · rename_i h; exact h
          · exact absurd h0 (by decide)
        obtain ⟨m, rfl⟩ := Int.eq_ofNat_of_zero_le (mask_of hm).1
        exact least_has g m
      · rw [if_neg h0, if_neg h0]
    rw [hEE, hBB]
    simp only [hc, hcL, decide_eq_true_eq, decide_eq_false_iff_not, and_true, true_and, Int.toNat_natCast, beq_self_eq_true, Bool.true_and, Bool.and_true]
    refine ⟨(fun h => by simp at h), fun _ => ⟨fun h => absurd h (by omega), fun _ => ⟨⟨0, by omega, by omega⟩, fun x hx => ⟨fun hlt => ⟨⟨0, by omega, by omega⟩, fun y hy => ⟨fun hlt2 => ⟨⟨fun _ => ⟨by omega, hlt, by omega, hlt2⟩, fun _ => trivial⟩, fun h => ?_, fun _ => ⟨inK_i64.2 (by omega), y + 1, by omega, by omega, by omega⟩⟩, fun _ => ⟨inK_i64.2 (by omega), x + 1, by omega, by omega, by omega⟩⟩⟩, fun hge => ?_⟩⟩⟩⟩
    · have hxy : x ≠ y := by
        intro e
        subst e
        simp at h
      have := least_apart g (i := x) (j := y) (by omega) (by omega) hxy
      rw [this] at h
      simp at h
    · exact ⟨⟨fun _ => trivial, fun _ => trivial⟩, hk⟩

theorem okQL : PlainOk Tryd.prog glT 5 cLawL := by
  refine plain_of (CxOk.mk' Et_ok rfl mixed (gl := glT) (GOk.cons okFact Tryd.func12 (by kernel_rfl) (by kernel_rfl) (GOk.cons okLeast Tryd.func21 (by kernel_rfl) (by kernel_rfl) (GOk.cons okHas Tryd.func19 (by kernel_rfl) (by kernel_rfl) (GOk.cons okCheck Tryd.func20 (by kernel_rfl) (by kernel_rfl) (GOk.cons okSub Tryd.func16 (by kernel_rfl) (by kernel_rfl) GOk.nil))))) GoOk.nil noIt) Tryd.func5 (c := Tryd.f5.body.getD .skip) (rvs := [(.tmp 6, .bool)]) (by kernel_rfl) (by kernel_rfl) (by kernel_rfl) ?_
  intro ds k ⟨hp, hk⟩ hwf
  obtain ⟨n, l, v, rfl, -⟩ := dest3 hp
  exact ⟨anQL n l, ql_vc n l v k hk⟩
end Go.Proofs.YtlopkkoenfngiaaDoor

/- Quorums: weights of sets. -/
namespace Go.Proofs.YtlopkkoenfngiaaDoor
open Go.Vc

/-- the weights of a set over the first k nodes -/
def SS (w : List Int) (a : Nat) (k : Nat) : Int := ((List.range k).map fun i => if a.testBit i = true then w.getD i 0 else 0).sum
theorem SS_succ (w : List Int) (a k : Nat) : SS w a (k + 1) = SS w a k + (if a.testBit k = true then w.getD k 0 else 0) := by
  unfold SS
  rw [List.range_succ, List.map_append, List.sum_append]; simp
theorem filter_sum (f : Nat → Int) (p : Nat → Bool) : ∀ l : List Nat, ((l.filter p).map f).sum = (l.map fun i => if p i = true then f i else 0).sum := by
  intro l
  induction l with
  | nil => rfl
  | cons a r ih =>
    rw [List.filter_cons, List.map_cons, List.sum_cons, ← ih]
    cases h : p a <;> simp
theorem sumW_nat (w : List Int) {a : Nat} (ha : a < 2 ^ 64) : sumW w (a : Int) = SS w a 64 := by
  unfold sumW sumL bitsOf bitsN SS
  have e : ((a : Int) % 18446744073709551616).toNat = a := by
    have : a < 18446744073709551616 := ha
    omega
  rw [e, List.map_map, filter_sum, List.range_eq_range']
  rfl
theorem SS_mono {w : List Int} (hw : wOk w) {a b : Nat} (h : sub a b) : ∀ k, SS w a k ≤ SS w b k := by
  intro k
  induction k with
  | zero => exact Int.le_refl _
  | succ k ih =>
    rw [SS_succ, SS_succ]
    have := w_at hw k
    cases ha : a.testBit k with
    | true => rw [h k ha]; simp only [if_true]; omega
    | false => simp only [Bool.false_eq_true, if_false]; split <;> omega
theorem sum_take (w : List Int) : ∀ k, ((List.range k).map fun i => w.getD i 0).sum = (w.take k).sum := by
  intro k
  induction k with
  | zero => rfl
  | succ k ih =>
    rw [List.range_succ, List.map_append, List.sum_append, ih]
    rcases Nat.lt_or_ge k w.length with h | h
    · rw [sum_snoc h]; simp
    · rw [List.take_of_length_le (by omega), List.take_of_length_le (show w.length ≤ k + 1 by omega)]
      simp [List.getElem?_eq_none h]
theorem SS_disj {w : List Int} (hw : wOk w) {a b : Nat} (h : ∀ i, ¬ (a.testBit i = true ∧ b.testBit i = true)) : ∀ k, SS w a k + SS w b k ≤ ((List.range k).map fun i => w.getD i 0).sum := by
  intro k
  induction k with
  | zero => exact Int.le_refl _
  | succ k ih =>
    rw [SS_succ, SS_succ, List.range_succ, List.map_append, List.sum_append]
    have h1 := w_at hw k
    have h2 := h k
    have e : ((([k] : List Nat).map fun i => w.getD i 0)).sum = w.getD k 0 := by simp
    rw [e]
    cases ha : a.testBit k with
    | true =>
      have hb : b.testBit k = false := by
        cases hb : b.testBit k with
        | false => rfl
        | true => exact absurd ⟨ha, hb⟩ h2
      rw [hb]; simp only [if_true, Bool.false_eq_true, if_false]; omega
    | false => simp only [Bool.false_eq_true, if_false]; split <;> omega
theorem SS_full {w : List Int} {n : Nat} (hn : w.length ≤ n) : ∀ k, SS w (2 ^ n - 1) k = ((List.range k).map fun i => w.getD i 0).sum := by
  intro k
  induction k with
  | zero => rfl
  | succ k ih =>
    rw [SS_succ, ih, List.range_succ, List.map_append, List.sum_append, Nat.testBit_two_pow_sub_one]
    by_cases h : k < n
    · simp [h]
    · simp [h, List.getElem?_eq_none (show w.length ≤ k by omega)]

/-- a set without one of its own -/
def lessN (b k : Nat) : Nat := b ^^^ (b &&& 2 ^ k)
theorem lessN_bit (b k i : Nat) : (lessN b k).testBit i = (b.testBit i && !decide (k = i)) := by
  unfold lessN
  rw [Nat.testBit_xor, Nat.testBit_and, Nat.testBit_two_pow]
  cases b.testBit i <;> cases decide (k = i) <;> rfl
theorem lessI_nat (b k : Nat) : lessI (b : Int) (k : Int) = (lessN b k : Int) := by
  unfold lessI lessN
  rw [Int.toNat_natCast, Int.toNat_natCast, Int.one_mul, powC, Int.toNat_natCast]
theorem lessN_lt {b n k : Nat} (h : b < 2 ^ n) : lessN b k < 2 ^ n := Nat.xor_lt_two_pow h (Nat.lt_of_le_of_lt Nat.and_le_left h)

/-- what the list of votes has -/
theorem votes_ok {w : List Int} {need : Int} (h : votesE w need = 0) : wOk w ∧ 0 < w.length ∧ 1 ≤ need ∧ need ≤ w.sum ∧ w.sum < 2 * need := by
  unfold votesE at h
  split at h
  · exact absurd h (by decide)
  rename_i h1
  split at h
  · exact absurd h (by decide)
  rename_i h2
  split at h
  · exact absurd h (by decide)
  rename_i h3
  split at h
  · exact absurd h (by decide)
  rename_i h4
  split at h
  · exact absurd h (by decide)
  rename_i h5
  have ha : w.all (fun x => inB x 0 20) = true := by simpa using h3
  have hb : inB need 1 w.sum = true := by simpa using h4
  have hb := inB_of hb
  exact ⟨⟨by omega, fun x hx => inB_of (List.all_eq_true.1 ha x hx)⟩, by omega, hb.1, hb.2, by omega⟩

theorem low_iff {w : List Int} (hw : wOk w) (need : Int) {s : Nat} (hs : s < 2 ^ w.length) : lowB w need (s : Int) = true ↔ need ≤ SS w s 64 ∧ ∀ i, s.testBit i = true → SS w (lessN s i) 64 < need := by
  have h64 : 2 ^ w.length ≤ 2 ^ 64 := Nat.pow_le_pow_right (by decide) (by have := hw.1; omega)
  have hs64 : s < 2 ^ 64 := Nat.lt_of_lt_of_le hs h64
  unfold lowB lowL
  rw [Bool.and_eq_true, decide_eq_true_eq, List.all_eq_true, sumW_nat w hs64]
  constructor
  · rintro ⟨h1, h2⟩
    refine ⟨h1, fun i hi => ?_⟩
    have := of_decide_eq_true (h2 (i : Int) ((bitsOf_mem hs64 _).2 ⟨i, rfl, hi⟩))
    rwa [lessI_nat, sumW_nat w (Nat.lt_of_lt_of_le (lessN_lt hs) h64)] at this
  · rintro ⟨h1, h2⟩
    refine ⟨h1, fun y hy => ?_⟩
    obtain ⟨i, rfl, hi⟩ := (bitsOf_mem hs64 y).1 hy
    rw [lessI_nat, sumW_nat w (Nat.lt_of_lt_of_le (lessN_lt hs) h64)]
    exact decide_eq_true (h2 i hi)

theorem votes_mem {w : List Int} {need : Int} (h : votesE w need = 0) {s : Int} : s ∈ votesL w need ↔ ∃ x : Nat, x < 2 ^ w.length ∧ s = (x : Int) ∧ lowB w need (x : Int) = true := by
  unfold votesL votesU
  rw [if_pos h, List.mem_filter, List.mem_map]
  constructor
  · rintro ⟨⟨x, hx, rfl⟩, h⟩
    exact ⟨x, List.mem_range.1 hx, rfl, h⟩
  · rintro ⟨x, hx, rfl, h⟩
    exact ⟨⟨x, List.mem_range.2 hx, rfl⟩, h⟩
theorem votes_nodup {w : List Int} {need : Int} (h : votesE w need = 0) : (votesL w need).Nodup := by
  unfold votesL votesU
  rw [if_pos h]
  exact range_nodup _ _

/-- below whatever is heavy enough there is a least one -/
theorem votes_below {w : List Int} {need : Int} (h : votesE w need = 0) {y : Nat} (hy : y < 2 ^ w.length) (hs : need ≤ SS w y 64) : ∃ x : Nat, (x : Int) ∈ votesL w need ∧ sub x y := by
  obtain ⟨hw, -⟩ := votes_ok h
  obtain ⟨x, ⟨hx, hxs⟩, hmin⟩ := exists_least (p := fun x => sub x y ∧ need ≤ SS w x 64) ⟨y, fun _ h => h, hs⟩
  have hxl : x < 2 ^ w.length := Nat.lt_of_le_of_lt (sub_le hx) hy
  refine ⟨x, (votes_mem h).2 ⟨x, hxl, rfl, (low_iff hw need hxl).2 ⟨hxs, fun i hi => ?_⟩⟩, hx⟩
  refine Int.not_le.1 fun hge => ?_
  have hsub : sub (lessN x i) x := fun j hj => by
    rw [lessN_bit, Bool.and_eq_true] at hj
    exact hj.1
  have h1 := hmin (lessN x i) ⟨sub_trans hsub hx, hge⟩
  have h2 := sub_le hsub
  have : lessN x i = x := by omega
  have h3 := lessN_bit x i i
  rw [this, hi] at h3
  simp at h3

theorem sum64 {w : List Int} (hw : wOk w) : ((List.range 64).map fun i => w.getD i 0).sum = w.sum := by
  rw [sum_take, List.take_of_length_le (by have := hw.1; omega)]

theorem votes_some {w : List Int} {need : Int} (h : votesE w need = 0) : 0 < (votesL w need).length := by
  obtain ⟨hw, h0, h1, h2, h3⟩ := votes_ok h
  have hp := Nat.two_pow_pos w.length
  obtain ⟨x, hx, _⟩ := votes_below h (y := 2 ^ w.length - 1) (by omega) (by rw [SS_full (Nat.le_refl _), sum64 hw]; exact h2)
  exact List.length_pos_of_mem hx

/-- any two of them -/
theorem votes_two {w : List Int} {need : Int} (h : votesE w need = 0) {a b : Nat} (ha : (a : Int) ∈ votesL w need) (hb : (b : Int) ∈ votesL w need) : a &&& b ≠ 0 ∧ (a ≠ b → ¬ sub a b) := by
  obtain ⟨hw, h0, h1, h2, h3⟩ := votes_ok h
  obtain ⟨a', hal, e1, hla⟩ := (votes_mem h).1 ha
  obtain ⟨b', hbl, e2, hlb⟩ := (votes_mem h).1 hb
  have e1 : a = a' := by omega
  have e2 : b = b' := by omega
  subst e1; subst e2
  have la := (low_iff hw need hal).1 hla
  have lb := (low_iff hw need hbl).1 hlb
  refine ⟨?_, fun hne hsub => ?_⟩
  · rw [meet_iff]
    refine Classical.byContradiction fun hc => ?_
    have := SS_disj hw (a := a) (b := b) (fun i hi => hc ⟨i, hi⟩) 64
    rw [sum64 hw] at this
    have := la.1
    have := lb.1
    omega
  · have hex : ∃ k, b.testBit k = true ∧ a.testBit k = false := by
      refine Classical.byContradiction fun hc => hne ?_
      apply Nat.eq_of_testBit_eq
      intro i
      cases ha : a.testBit i with
      | true => exact (hsub i ha).symm
      | false =>
        cases hb : b.testBit i with
        | false => rfl
        | true => exact absurd ⟨i, hb, ha⟩ hc
    obtain ⟨k, hk1, hk2⟩ := hex
    have h4 := lb.2 k hk1
    have h5 := SS_mono hw (a := a) (b := lessN b k) (fun i hi => by
      rw [lessN_bit, hsub i hi]
      have : k ≠ i := fun e => by subst e; rw [hk2] at hi; cases hi
      simp [this]) 64
    have := la.1
    omega
theorem votes_pos {w : List Int} {need : Int} (h : votesE w need = 0) {s : Int} (hs : s ∈ votesL w need) : ∃ a : Nat, s = (a : Int) ∧ 0 < a ∧ a < 2 ^ w.length := by
  obtain ⟨hw, h0, h1, h2, h3⟩ := votes_ok h
  obtain ⟨a, hal, rfl, hla⟩ := (votes_mem h).1 hs
  refine ⟨a, rfl, ?_, hal⟩
  have la := ((low_iff hw need hal).1 hla).1
  rcases Nat.eq_zero_or_pos a with e | e
  · subst e
    have hz : ∀ k, SS w 0 k = 0 := by
      intro k
      induction k with
      | zero => rfl
      | succ k ih => rw [SS_succ, ih]; simp
    rw [hz] at la
    omega
  · exact e
/-- where one vote more is needed -/
theorem votes_more {w : List Int} {need : Int} (h : votesE w need = 0) (h' : votesE w (need + 1) = 0) {m : Int} (hm : m ∈ votesL w (need + 1)) : someB (votesL w need) m (votesL w need).length = true := by
  obtain ⟨hw, -⟩ := votes_ok h
  obtain ⟨a, rfl, ha0, hal⟩ := votes_pos h' hm
  obtain ⟨a', _, e, hla⟩ := (votes_mem h').1 hm
  have e : a = a' := by omega
  subst e
  have la := ((low_iff hw (need + 1) hal).1 hla).1
  obtain ⟨x, hx, hsub⟩ := votes_below h hal (by omega)
  obtain ⟨j, hj, he⟩ := List.getElem_of_mem hx
  unfold someB
  refine List.any_eq_true.2 ⟨j, List.mem_range.2 hj, ?_⟩
  rw [getD_at hj, he, decide_eq_true (show (0 : Int) < (a : Int) by omega), Bool.true_and]
  exact (subB_iff x a).2 hsub
theorem someB_succ (l : List Int) (m : Int) (k : Nat) : someB l m (k + 1) = (someB l m k || decide (0 < m) && subB (l.getD k 0) m) := by
  unfold someB
  rw [List.range_succ, List.any_append]; simp
theorem votes_need {w : List Int} {need : Int} (h : votesE w need = 0) (h' : votesE w (need + 1) ≠ 0) : w.sum ≤ need := by
  obtain ⟨hw, h0, h1, h2, h3⟩ := votes_ok h
  refine Int.not_lt.1 fun hlt => h' ?_
  have hall : w.all (fun x => inB x 0 20) = true := List.all_eq_true.2 fun x hx => by
    have := hw.2 x hx
    unfold inB; simp; omega
  have hb : inB (need + 1) 1 w.sum = true := by unfold inB; simp; omega
  unfold votesE
  rw [if_neg (by omega), if_neg (by have := hw.1; omega), if_neg (by rw [hall]; decide), if_neg (by rw [hb]; decide), if_neg (by omega)]
end Go.Proofs.YtlopkkoenfngiaaDoor

/- Quorums: the law of votes. -/
namespace Go.Proofs.YtlopkkoenfngiaaDoor
open Go.Vc

theorem qv_vc (w : List Int) (need : Int) (k : List Dat → Prop) (hk : k [⟨.bool, true⟩]) :
    vcF ⟨Et, [(12, cFact), (13, cVotes), (14, cPow2), (15, cBoth), (16, cSub), (17, cSumL)], glT, [], []⟩ (anQV w need) (Tryd.f3.body.getD .skip) Tryd.f3.ntmps [(.tmp 4, .bool)] [⟨.sl I, w⟩, ⟨I, need⟩] k := by
  rw [vcQV]
  refine ⟨trivial, (fun h => by cases h), fun _ => ⟨trivial, fun hc => ?_, fun hc => ?_⟩⟩
  · have hc : votesE w need ≠ 0 := by simpa using hc
    have e : votesL w need = [] := by unfold votesL; rw [if_neg hc]
    rw [e]
    exact hk
  · have hc : votesE w need = 0 := by simpa using hc
    obtain ⟨hw, h0, h1, h2, h3⟩ := votes_ok hc
    have hpc := powC w.length
    have hpw : 2 ^ w.length ≤ 256 := Nat.pow_le_pow_right (n := 2) (by decide) hw.1
    have hsum := sum_bd hw.2
    have hwl := hw.1
    have hlen : (votesL w need).length ≤ 256 := by
      unfold votesL
      rw [if_pos hc]
      exact Nat.le_trans (votesU_len _ _ _) hpw
    have hlen2 : (votesL w (need + 1)).length ≤ 256 := by
      unfold votesL
      split
      · exact Nat.le_trans (votesU_len _ _ _) hpw
      · exact Nat.zero_le _
    have hnd := votes_nodup hc
    have hpos := votes_some hc
    simp only [hc, decide_eq_true_eq, decide_eq_false_iff_not, and_true, true_and, Int.toNat_natCast, Bool.not_eq_true', Bool.not_eq_false', Bool.or_eq_true, Bool.or_eq_false_iff]
    refine ⟨⟨0, by omega, by omega⟩, fun x hx => ⟨fun hlt => ?_, fun hge => ?_⟩⟩
    · have hxl : x < (votesL w need).length := by omega
      have hm := getD_mem hxl
      obtain ⟨a, ha, ha0, hal⟩ := votes_pos hc hm
      rw [ha] at hm ⊢
      refine ⟨⟨by omega, hlt, fun _ => trivial, fun _ => ⟨by omega, hlt, by omega⟩⟩, fun h => ?_, fun _ => ⟨⟨0, by omega, by omega⟩, fun y hy => ⟨fun hlt2 => ?_, fun _ => ⟨inK_i64.2 (by omega), x + 1, by omega, by omega, by omega⟩⟩⟩⟩
      · rcases h with h | h
        · omega
        · rw [hpc] at h; omega
      · have hyl : y < (votesL w need).length := by omega
        have hm2 := getD_mem hyl
        obtain ⟨b, hb, hb0, hbl⟩ := votes_pos hc hm2
        have hne := getD_inj hnd hxl hyl (by omega)
        rw [ha, hb] at hne
        rw [hb] at hm2 ⊢
        have hab := votes_two hc hm hm2
        have hba := votes_two hc hm2 hm
        have s1 : subB (a : Int) (b : Int) = false := by
          cases h : subB (a : Int) (b : Int) with
          | false => rfl
          | true => exact absurd ((subB_iff a b).1 h) (hab.2 (by omega))
        have s2 : subB (b : Int) (a : Int) = false := by
          cases h : subB (b : Int) (a : Int) with
          | false => rfl
          | true => exact absurd ((subB_iff b a).1 h) (hba.2 (by omega))
        have s3 : ¬ ((a &&& b : Nat) : Int) = 0 := by have := hab.1; omega
        simp only [s1, s2, s3, Int.toNat_natCast, false_or, or_self, and_self, not_false_eq_true, false_and, true_and, Bool.false_eq_true]
        refine ⟨⟨by omega, hlt, by omega, by omega, by omega, (fun h => h.elim), fun _ => ⟨by omega, hlt, by omega, by omega, (fun h => h.elim), fun _ => ⟨by omega, by omega, by omega, hlt⟩⟩⟩, (fun h => h.elim), fun _ => ⟨inK_i64.2 (by omega), y + 1, by omega, by omega, by omega⟩⟩
    · refine ⟨fun h => absurd h (by omega), fun _ => ⟨inK_i64.2 (by omega), fun hE => ⟨⟨hw.2, hw.1⟩, ?_⟩, fun hE => ?_⟩⟩
      · have := votes_need hc hE
        rw [decide_eq_true this]; exact hk
      · simp only [hE, and_true]
        refine ⟨⟨0, by omega, by omega⟩, fun x hx => ⟨fun hlt => ⟨⟨0, by omega, rfl, by omega⟩, fun y hy => ⟨fun hlt2 => ?_, fun hge2 => ?_⟩⟩, fun _ => hk⟩⟩
        · refine ⟨⟨fun _ => trivial, fun _ => ⟨by omega, hlt, fun _ => ⟨by omega, hlt2, by omega, hlt⟩, fun _ => trivial⟩⟩, inK_i64.2 (by omega), y + 1, by omega, by omega, (someB_succ _ _ _).symm, by omega⟩
        · have hy2 : y = (votesL w need).length := by omega
          have hm := getD_mem (l := votesL w (need + 1)) (i := x) (by omega)
          have := votes_more hc hE hm
          rw [hy2, this]
          exact ⟨(fun h => by cases h), fun _ => ⟨inK_i64.2 (by omega), x + 1, by omega, by omega, by omega⟩⟩

theorem okQV : PlainOk Tryd.prog glT 3 cLawV := by
  refine plain_of (CxOk.mk' Et_ok rfl mixed (gl := glT) (GOk.cons okFact Tryd.func12 (by kernel_rfl) (by kernel_rfl) (GOk.cons okVotes Tryd.func13 (by kernel_rfl) (by kernel_rfl) (GOk.cons okPow2 Tryd.func14 (by kernel_rfl) (by kernel_rfl) (GOk.cons okBoth Tryd.func15 (by kernel_rfl) (by kernel_rfl) (GOk.cons okSub Tryd.func16 (by kernel_rfl) (by kernel_rfl) (GOk.cons okSumL Tryd.func17 (by kernel_rfl) (by kernel_rfl) GOk.nil)))))) GoOk.nil noIt) Tryd.func3 (c := Tryd.f3.body.getD .skip) (rvs := [(.tmp 4, .bool)]) (by kernel_rfl) (by kernel_rfl) (by kernel_rfl) ?_
  intro ds k ⟨hp, hk⟩ hwf
  obtain ⟨w, need, rfl, -⟩ := dest2 hp
  exact ⟨anQV w need, qv_vc w need k hk⟩
end Go.Proofs.YtlopkkoenfngiaaDoor

/- Quorums: how many two have in common; how many may fail. -/
namespace Go.Proofs.YtlopkkoenfngiaaDoor
open Go.Vc

theorem popN_pos : ∀ n : Fin 256, n.val ≠ 0 → 0 < popN n.val := by decide +kernel
theorem popN_full : ∀ n : Fin 9, popN (2 ^ n.val - 1) = n.val := by decide +kernel
theorem popN_le : ∀ n : Fin 9, ∀ x : Fin 256, x.val < 2 ^ n.val → popN x.val ≤ n.val := by decide +kernel
theorem compl_sub : ∀ n : Fin 9, ∀ v : Fin 256, v.val < 2 ^ n.val → (2 ^ n.val - 1) ^^^ ((2 ^ n.val - 1) &&& v.val) = 2 ^ n.val - 1 - v.val := by decide +kernel

theorem popI_comm (a b : Int) : popI a b = popI b a := by unfold popI; rw [Nat.and_comm]

theorem mem_pop {n : Int} {l : List Int} (g : Sets n l) {a b : Nat} (ha : a < l.length) (hb : b < l.length) : 1 ≤ popI (l.getD a 0) (l.getD b 0) ∧ popI (l.getD a 0) (l.getD b 0) ≤ n := by
  have h1 := g.mem _ (getD_mem ha)
  have h2 := g.mem _ (getD_mem hb)
  have hm := g.meet _ (getD_mem ha) _ (getD_mem hb)
  have hn := g.rng
  rw [powC] at h1 h2
  have hlt : (l.getD a 0).toNat &&& (l.getD b 0).toNat < 2 ^ n.toNat := Nat.lt_of_le_of_lt Nat.and_le_left (by omega)
  have h256 : (l.getD a 0).toNat &&& (l.getD b 0).toNat < 256 := Nat.lt_of_lt_of_le hlt (pow8 hn.2)
  have p1 := popN_pos ⟨_, h256⟩ hm
  have p2 := popN_le ⟨n.toNat, by omega⟩ ⟨_, h256⟩ hlt
  simp only at p1 p2
  unfold popI
  omega

/-- what is behind the two loops -/
theorem mp_end {n : Int} {l : List Int} (g : Sets n l) {m : Int} (h : MP n l l.length 0 m) : (∀ a b, a < l.length → b < l.length → m ≤ popI (l.getD a 0) (l.getD b 0)) ∧ 1 ≤ m ∧ ∃ a b, a < l.length ∧ b < l.length ∧ m = popI (l.getD a 0) (l.getD b 0) := by
  obtain ⟨h1, h2, h3⟩ := h
  have hall : ∀ a b, a < l.length → b < l.length → m ≤ popI (l.getD a 0) (l.getD b 0) := by
    intro a b ha hb
    rcases Nat.le_total b a with hab | hab
    · exact h2 a b (.inl ⟨ha, hab⟩)
    · rw [popI_comm]; exact h2 b a (.inl ⟨hb, hab⟩)
  have hex : ∃ a b, a < l.length ∧ b < l.length ∧ m = popI (l.getD a 0) (l.getD b 0) := by
    rcases h3 with h3 | h3
    · have h0 := g.len.1
      have hp := mem_pop g h0 h0
      exact ⟨0, 0, h0, h0, by have := hall 0 0 h0 h0; omega⟩
    · exact h3
  refine ⟨hall, ?_, hex⟩
  obtain ⟨a, b, ha, hb, he⟩ := hex
  have := (mem_pop g ha hb).1
  omega

theorem has_full {n : Int} {l : List Int} (g : Sets n l) : hasB l (complN n 0) = true := by
  have e : complN n 0 = ((2 ^ n.toNat - 1 : Nat) : Int) := by
    have := compl_nat n 0
    rw [Nat.and_zero, Nat.xor_zero] at this
    exact this
  rw [e, has_iff g]
  have h0 := getD_mem (l := l) (i := 0) g.len.1
  have hm := g.mem _ h0
  obtain ⟨s, hs⟩ := Int.eq_ofNat_of_zero_le (show 0 ≤ l.getD 0 0 by omega)
  rw [hs] at h0
  refine ⟨s, h0, fun i hi => ?_⟩
  rw [Nat.testBit_two_pow_sub_one]
  exact decide_eq_true (bit_lt (memN g h0).2 hi)
theorem has_none {n : Int} {l : List Int} (g : Sets n l) : hasB l (complN n ((2 ^ n.toNat - 1 : Nat) : Int)) = false := by
  rw [compl_nat, Nat.and_self, Nat.xor_self]
  cases h : hasB l ((0 : Nat) : Int) with
  | false => rfl
  | true =>
    obtain ⟨s, hs, hsub⟩ := (has_iff g 0).1 h
    have h1 := memN g hs
    have := sub_le hsub
    omega

theorem fp_end {n : Int} {l : List Int} (g : Sets n l) {f : Int} (h : FP n l (2 ^ n.toNat) f) : 0 ≤ f ∧ f < n := by
  obtain ⟨h1, h2, h3⟩ := h
  have hn := g.rng
  have hp := Nat.two_pow_pos n.toNat
  have hfull := h2 (2 ^ n.toNat - 1) (by omega) (has_none g)
  have hpf := popN_full ⟨n.toNat, by omega⟩
  simp only at hpf
  rw [hpf] at hfull
  refine ⟨?_, by omega⟩
  rcases h3 with h3 | ⟨x, hx, hb, he⟩
  · omega
  · have hx0 : x ≠ 0 := by
      intro e
      subst e
      have := has_full g
      rw [show ((0 : Nat) : Int) = 0 from rfl] at hb
      rw [hb] at this; cases this
    have := popN_pos ⟨x, Nat.lt_of_lt_of_le hx (pow8 hn.2)⟩ hx0
    simp only at this
    omega
end Go.Proofs.YtlopkkoenfngiaaDoor

/- What the functions of this seat have to satisfy, by program: each verification condition in plain words. -/
namespace Go.Proofs.YtlopkkoenfngiaaDoor
open Go.Vc
set_option linter.unusedVariables false
theorem vcManyR (s : Int) (k : List Dat → Prop) : vcF ⟨Et, [], glT, [], []⟩ (anManyR s) (Tryd.f23.body.getD .skip) Tryd.f23.ntmps [(.tmp 2, I)] [⟨I, s⟩] k = (
  (∃ (x : Nat), (x ≤ (8 : Nat) ∧ True) ∧ (s = s.tdiv ((2 : Int) ^ x) ∧ (0 : Int) = (0 : Int) ∧ (0 : Int) = (↑(popK s.toNat x) : Int) ∧ True) ∧ True ∧ tabD = tabD ∧ True) ∧ ∀ (x : Nat), x ≤ (8 : Nat) ∧ True → (decide ((0 : Int) < s.tdiv ((2 : Int) ^ x)) = true → (2 : Int) ≠ (0 : Int) ∧ inK IntKind.i64 ((s.tdiv ((2 : Int) ^ x)).tmod (2 : Int)) ∧ inK IntKind.i64 ((↑(popK s.toNat x) : Int) + (s.tdiv ((2 : Int) ^ x)).tmod (2 : Int)) ∧ (2 : Int) ≠ (0 : Int) ∧ inK IntKind.i64 ((s.tdiv ((2 : Int) ^ x)).tdiv (2 : Int)) ∧ ∃ (x_1 : Nat), (x_1 ≤ (8 : Nat) ∧ True) ∧ (9 : Nat) - x_1 < (9 : Nat) - x ∧ ((s.tdiv ((2 : Int) ^ x)).tdiv (2 : Int) = s.tdiv ((2 : Int) ^ x_1) ∧ (0 : Int) = (0 : Int) ∧ (↑(popK s.toNat x) : Int) + (s.tdiv ((2 : Int) ^ x)).tmod (2 : Int) = (↑(popK s.toNat x_1) : Int) ∧ True) ∧ True ∧ tabD = tabD ∧ True) ∧ (decide ((0 : Int) < s.tdiv ((2 : Int) ^ x)) = false → k [Dat.mk (I) (↑(popK s.toNat x) : Int)])) := by kernel_rfl
theorem vcMasks (n : Int) (l : List Int) (k : List Dat → Prop) : vcF ⟨Et, [(20, cCheck), (42, cHas0), (47, cMany)], glT, [], []⟩ (anMasks n l) (Tryd.f22.body.getD .skip) Tryd.f22.ntmps [(.tmp 4, I), (.tmp 5, I), (.tmp 6, tErr)] [⟨I, n⟩, ⟨.sl I, l⟩] k = (
  True ∧ ((!decide (chkS n l = (0 : Int))) = true → k [Dat.mk (I) (0 : Int), Dat.mk (I) (0 : Int), Dat.mk (Ty.err (58 : Nat)) (chkS n l)]) ∧ ((!decide (chkS n l = (0 : Int))) = false → (∃ (x : Nat × Int), (x.fst ≤ l.length ∧ chkS n l = (0 : Int) ∧ MP n l x.fst (0 : Nat) x.snd) ∧ (n = n ∧ l = l ∧ (0 : Int) = (0 : Int) ∧ (0 : Int) = (0 : Int) ∧ (0 : Int) = (0 : Int) ∧ n = x.snd ∧ l = l ∧ (↑l.length : Int) = (↑l.length : Int) ∧ (0 : Int) = (↑x.fst : Int) ∧ True) ∧ True ∧ tabD = tabD ∧ True) ∧ ∀ (x : Nat × Int), x.fst ≤ l.length ∧ chkS n l = (0 : Int) ∧ MP n l x.fst (0 : Nat) x.snd → (decide ((↑x.fst : Int) < (↑l.length : Int)) = true → (0 : Int) ≤ (↑x.fst : Int) ∧ (↑x.fst : Int) < (↑l.length : Int) ∧ inK IntKind.i64 ((↑x.fst : Int) + (1 : Int)) ∧ (0 : Int) ≤ (0 : Int) ∧ (0 : Int) ≤ (↑x.fst : Int) + (1 : Int) ∧ (↑x.fst : Int) + (1 : Int) ≤ (↑l.length : Int) ∧ (∃ (x_1 : Nat × Int), ((↑x_1.fst : Int) ≤ (↑x.fst : Int) + (1 : Int) ∧ MP n l (↑x.fst : Int).toNat x_1.fst x_1.snd) ∧ (n = n ∧ l = l ∧ (0 : Int) = (0 : Int) ∧ (0 : Int) = (0 : Int) ∧ (0 : Int) = (0 : Int) ∧ x.snd = x_1.snd ∧ l.getD (↑x.fst : Int).toNat (0 : Int) = l.getD (↑x.fst : Int).toNat (0 : Int) ∧ l = l ∧ (↑l.length : Int) = (↑l.length : Int) ∧ (↑x.fst : Int) = (↑x.fst : Int) ∧ List.drop (Int.toNat (0 : Int)) (List.take ((↑x.fst : Int) + (1 : Int)).toNat l) = List.drop (Int.toNat (0 : Int)) (List.take ((↑x.fst : Int) + (1 : Int)).toNat l) ∧ (↑(List.drop (Int.toNat (0 : Int)) (List.take ((↑x.fst : Int) + (1 : Int)).toNat l)).length : Int) = (↑(List.drop (Int.toNat (0 : Int)) (List.take ((↑x.fst : Int) + (1 : Int)).toNat l)).length : Int) ∧ (0 : Int) = (↑x_1.fst : Int) ∧ True) ∧ True ∧ tabD = tabD ∧ True) ∧ ∀ (x_1 : Nat × Int), (↑x_1.fst : Int) ≤ (↑x.fst : Int) + (1 : Int) ∧ MP n l (↑x.fst : Int).toNat x_1.fst x_1.snd → (decide ((↑x_1.fst : Int) < (↑(List.drop (Int.toNat (0 : Int)) (List.take ((↑x.fst : Int) + (1 : Int)).toNat l)).length : Int)) = true → (0 : Int) ≤ (↑x_1.fst : Int) ∧ (↑x_1.fst : Int) < (↑(List.drop (Int.toNat (0 : Int)) (List.take ((↑x.fst : Int) + (1 : Int)).toNat l)).length : Int) ∧ (0 : Int) ≤ l.getD (↑x.fst : Int).toNat (0 : Int) ∧ (0 : Int) ≤ (List.drop (Int.toNat (0 : Int)) (List.take ((↑x.fst : Int) + (1 : Int)).toNat l)).getD (↑x_1.fst : Int).toNat (0 : Int) ∧ ((0 : Int) ≤ (↑((l.getD (↑x.fst : Int).toNat (0 : Int)).toNat &&& ((List.drop (Int.toNat (0 : Int)) (List.take ((↑x.fst : Int) + (1 : Int)).toNat l)).getD (↑x_1.fst : Int).toNat (0 : Int)).toNat) : Int) ∧ (↑((l.getD (↑x.fst : Int).toNat (0 : Int)).toNat &&& ((List.drop (Int.toNat (0 : Int)) (List.take ((↑x.fst : Int) + (1 : Int)).toNat l)).getD (↑x_1.fst : Int).toNat (0 : Int)).toNat) : Int) < (256 : Int)) ∧ inK IntKind.i64 ((↑x_1.fst : Int) + (1 : Int)) ∧ ∃ (x_2 : Nat × Int), ((↑x_2.fst : Int) ≤ (↑x.fst : Int) + (1 : Int) ∧ MP n l (↑x.fst : Int).toNat x_2.fst x_2.snd) ∧ l.length + (1 : Nat) - x_2.fst < l.length + (1 : Nat) - x_1.fst ∧ (n = n ∧ l = l ∧ (0 : Int) = (0 : Int) ∧ (0 : Int) = (0 : Int) ∧ (0 : Int) = (0 : Int) ∧ min x_1.snd (↑(popN (↑((l.getD (↑x.fst : Int).toNat (0 : Int)).toNat &&& ((List.drop (Int.toNat (0 : Int)) (List.take ((↑x.fst : Int) + (1 : Int)).toNat l)).getD (↑x_1.fst : Int).toNat (0 : Int)).toNat) : Int).toNat) : Int) = x_2.snd ∧ l.getD (↑x.fst : Int).toNat (0 : Int) = l.getD (↑x.fst : Int).toNat (0 : Int) ∧ l = l ∧ (↑l.length : Int) = (↑l.length : Int) ∧ (↑x.fst : Int) = (↑x.fst : Int) ∧ List.drop (Int.toNat (0 : Int)) (List.take ((↑x.fst : Int) + (1 : Int)).toNat l) = List.drop (Int.toNat (0 : Int)) (List.take ((↑x.fst : Int) + (1 : Int)).toNat l) ∧ (↑(List.drop (Int.toNat (0 : Int)) (List.take ((↑x.fst : Int) + (1 : Int)).toNat l)).length : Int) = (↑(List.drop (Int.toNat (0 : Int)) (List.take ((↑x.fst : Int) + (1 : Int)).toNat l)).length : Int) ∧ (↑x_1.fst : Int) + (1 : Int) = (↑x_2.fst : Int) ∧ True) ∧ True ∧ tabD = tabD ∧ True) ∧ (decide ((↑x_1.fst : Int) < (↑(List.drop (Int.toNat (0 : Int)) (List.take ((↑x.fst : Int) + (1 : Int)).toNat l)).length : Int)) = false → inK IntKind.i64 ((↑x.fst : Int) + (1 : Int)) ∧ ∃ (x_2 : Nat × Int), (x_2.fst ≤ l.length ∧ chkS n l = (0 : Int) ∧ MP n l x_2.fst (0 : Nat) x_2.snd) ∧ l.length - x_2.fst < l.length - x.fst ∧ (n = n ∧ l = l ∧ (0 : Int) = (0 : Int) ∧ (0 : Int) = (0 : Int) ∧ (0 : Int) = (0 : Int) ∧ x_1.snd = x_2.snd ∧ l = l ∧ (↑l.length : Int) = (↑l.length : Int) ∧ (↑x.fst : Int) + (1 : Int) = (↑x_2.fst : Int) ∧ True) ∧ True ∧ tabD = tabD ∧ True)) ∧ (decide ((↑x.fst : Int) < (↑l.length : Int)) = false → (0 : Int) ≤ n ∧ n < (64 : Int) ∧ IntKind.i64.bits = (64 : Nat) ∧ inK IntKind.i64 ((1 : Int) * (2 : Int) ^ n.toNat) ∧ (∃ (x_1 : Nat × Int), (x_1.fst ≤ (2 : Nat) ^ n.toNat ∧ chkS n l = (0 : Int) ∧ FP n l x_1.fst x_1.snd) ∧ (n = n ∧ l = l ∧ (0 : Int) = (0 : Int) ∧ n = x_1.snd ∧ (0 : Int) = (0 : Int) ∧ x.snd = x.snd ∧ (1 : Int) * (2 : Int) ^ n.toNat = (1 : Int) * (2 : Int) ^ n.toNat ∧ (0 : Int) = (↑x_1.fst : Int) ∧ True) ∧ True ∧ tabD = tabD ∧ True) ∧ ∀ (x_1 : Nat × Int), x_1.fst ≤ (2 : Nat) ^ n.toNat ∧ chkS n l = (0 : Int) ∧ FP n l x_1.fst x_1.snd → (decide ((↑x_1.fst : Int) < (1 : Int) * (2 : Int) ^ n.toNat) = true → (0 : Int) ≤ n ∧ n < (64 : Int) ∧ IntKind.i64.bits = (64 : Nat) ∧ inK IntKind.i64 ((1 : Int) * (2 : Int) ^ n.toNat) ∧ inK IntKind.i64 ((1 : Int) * (2 : Int) ^ n.toNat - (1 : Int)) ∧ (0 : Int) ≤ (1 : Int) * (2 : Int) ^ n.toNat - (1 : Int) ∧ (0 : Int) ≤ (↑x_1.fst : Int) ∧ ((0 : Int) ≤ (↑(((1 : Int) * (2 : Int) ^ n.toNat - (1 : Int)).toNat ^^^ ((1 : Int) * (2 : Int) ^ n.toNat - (1 : Int)).toNat &&& (↑x_1.fst : Int).toNat) : Int) ∧ ∀ (s : Int), s ∈ l → (0 : Int) ≤ s) ∧ ((!hasB l (↑(((1 : Int) * (2 : Int) ^ n.toNat - (1 : Int)).toNat ^^^ ((1 : Int) * (2 : Int) ^ n.toNat - (1 : Int)).toNat &&& (↑x_1.fst : Int).toNat) : Int)) = true → ((0 : Int) ≤ (↑x_1.fst : Int) ∧ (↑x_1.fst : Int) < (256 : Int)) ∧ inK IntKind.i64 ((↑(popN (↑x_1.fst : Int).toNat) : Int) - (1 : Int)) ∧ inK IntKind.i64 ((↑x_1.fst : Int) + (1 : Int)) ∧ ∃ (x_2 : Nat × Int), (x_2.fst ≤ (2 : Nat) ^ n.toNat ∧ chkS n l = (0 : Int) ∧ FP n l x_2.fst x_2.snd) ∧ (2 : Nat) ^ n.toNat - x_2.fst < (2 : Nat) ^ n.toNat - x_1.fst ∧ (n = n ∧ l = l ∧ (0 : Int) = (0 : Int) ∧ min x_1.snd ((↑(popN (↑x_1.fst : Int).toNat) : Int) - (1 : Int)) = x_2.snd ∧ (0 : Int) = (0 : Int) ∧ x.snd = x.snd ∧ (1 : Int) * (2 : Int) ^ n.toNat = (1 : Int) * (2 : Int) ^ n.toNat ∧ (↑x_1.fst : Int) + (1 : Int) = (↑x_2.fst : Int) ∧ True) ∧ True ∧ tabD = tabD ∧ True) ∧ ((!hasB l (↑(((1 : Int) * (2 : Int) ^ n.toNat - (1 : Int)).toNat ^^^ ((1 : Int) * (2 : Int) ^ n.toNat - (1 : Int)).toNat &&& (↑x_1.fst : Int).toNat) : Int)) = false → inK IntKind.i64 ((↑x_1.fst : Int) + (1 : Int)) ∧ ∃ (x_2 : Nat × Int), (x_2.fst ≤ (2 : Nat) ^ n.toNat ∧ chkS n l = (0 : Int) ∧ FP n l x_2.fst x_2.snd) ∧ (2 : Nat) ^ n.toNat - x_2.fst < (2 : Nat) ^ n.toNat - x_1.fst ∧ (n = n ∧ l = l ∧ (0 : Int) = (0 : Int) ∧ x_1.snd = x_2.snd ∧ (0 : Int) = (0 : Int) ∧ x.snd = x.snd ∧ (1 : Int) * (2 : Int) ^ n.toNat = (1 : Int) * (2 : Int) ^ n.toNat ∧ (↑x_1.fst : Int) + (1 : Int) = (↑x_2.fst : Int) ∧ True) ∧ True ∧ tabD = tabD ∧ True)) ∧ (decide ((↑x_1.fst : Int) < (1 : Int) * (2 : Int) ^ n.toNat) = false → inK IntKind.i64 (x.snd - (1 : Int)) ∧ (2 : Int) ≠ (0 : Int) ∧ inK IntKind.i64 ((x.snd - (1 : Int)).tdiv (2 : Int)) ∧ k [Dat.mk (I) ((x.snd - (1 : Int)).tdiv (2 : Int)), Dat.mk (I) x_1.snd, Dat.mk (Ty.err (58 : Nat)) (0 : Int)])))) := by kernel_rfl
theorem vcQM (n : Int) (l : List Int) (v : Int) (k : List Dat → Prop) : vcF ⟨Et, [(12, cFact), (22, cMasks), (23, cManyR), (15, cBoth), (14, cPow2), (19, cHas)], glT, [], []⟩ (anQM n l) (Tryd.f6.body.getD .skip) Tryd.f6.ntmps [(.tmp 6, .bool)] [⟨I, n⟩, ⟨.sl I, l⟩, ⟨I, v⟩] k = (
  True ∧ ((!true) = true → k [Dat.mk Ty.bool false]) ∧ ((!true) = false → ∀ (a f : Int), (chkS n l = (0 : Int) → (∃ (m : Int), MP n l l.length (0 : Nat) m ∧ a = (m - (1 : Int)).tdiv (2 : Int)) ∧ FP n l ((2 : Nat) ^ n.toNat) f) → (chkS n l ≠ (0 : Int) → a = (0 : Int) ∧ f = (0 : Int)) → ((!decide (chkS n l = (0 : Int))) = true → (decide (a = (0 : Int)) = true → k [Dat.mk Ty.bool (decide (f = (0 : Int)))]) ∧ (decide (a = (0 : Int)) = false → k [Dat.mk Ty.bool false])) ∧ ((!decide (chkS n l = (0 : Int))) = false → (decide (a < (0 : Int)) = true → k [Dat.mk Ty.bool false]) ∧ (decide (a < (0 : Int)) = false → (decide (f < (0 : Int)) = true → k [Dat.mk Ty.bool false]) ∧ (decide (f < (0 : Int)) = false → (decide (n ≤ f) = true → k [Dat.mk Ty.bool false]) ∧ (decide (n ≤ f) = false → (∃ (x : Nat × Bool), (x.fst ≤ l.length ∧ (x.snd = true ↔ tightB l a x.fst (0 : Nat))) ∧ (n = n ∧ l = l ∧ v = v ∧ a = a ∧ f = f ∧ false = x.snd ∧ (0 : Int) = (↑x.fst : Int) ∧ True) ∧ True ∧ tabD = tabD ∧ True) ∧ ∀ (x : Nat × Bool), x.fst ≤ l.length ∧ (x.snd = true ↔ tightB l a x.fst (0 : Nat)) → (decide ((↑x.fst : Int) < (↑l.length : Int)) = true → (∃ (x_1 : Nat × Bool), (x_1.fst ≤ l.length ∧ (x_1.snd = true ↔ tightB l a (↑x.fst : Int).toNat x_1.fst)) ∧ (n = n ∧ l = l ∧ v = v ∧ a = a ∧ f = f ∧ x.snd = x_1.snd ∧ (↑x.fst : Int) = (↑x.fst : Int) ∧ (0 : Int) = (↑x_1.fst : Int) ∧ True) ∧ True ∧ tabD = tabD ∧ True) ∧ ∀ (x_1 : Nat × Bool), x_1.fst ≤ l.length ∧ (x_1.snd = true ↔ tightB l a (↑x.fst : Int).toNat x_1.fst) → (decide ((↑x_1.fst : Int) < (↑l.length : Int)) = true → ((0 : Int) ≤ (↑x.fst : Int) ∧ (↑x.fst : Int) < (↑l.length : Int) ∧ (0 : Int) ≤ (↑x_1.fst : Int) ∧ (↑x_1.fst : Int) < (↑l.length : Int) ∧ (l.getD (↑x.fst : Int).toNat (0 : Int) < (2305843009213693952 : Int) ∧ True) ∧ ((↑((l.getD (↑x.fst : Int).toNat (0 : Int)).toNat &&& (l.getD (↑x_1.fst : Int).toNat (0 : Int)).toNat) : Int) < (256 : Int) ∧ True) ∧ True) ∧ inK IntKind.i64 ((↑(popN (↑((l.getD (↑x.fst : Int).toNat (0 : Int)).toNat &&& (l.getD (↑x_1.fst : Int).toNat (0 : Int)).toNat) : Int).toNat) : Int) - a) ∧ (decide ((↑(popN (↑((l.getD (↑x.fst : Int).toNat (0 : Int)).toNat &&& (l.getD (↑x_1.fst : Int).toNat (0 : Int)).toNat) : Int).toNat) : Int) - a ≤ a) = true → k [Dat.mk Ty.bool false]) ∧ (decide ((↑(popN (↑((l.getD (↑x.fst : Int).toNat (0 : Int)).toNat &&& (l.getD (↑x_1.fst : Int).toNat (0 : Int)).toNat) : Int).toNat) : Int) - a ≤ a) = false → (x_1.snd = true → inK IntKind.i64 ((↑x_1.fst : Int) + (1 : Int)) ∧ ∃ (x_2 : Nat × Bool), (x_2.fst ≤ l.length ∧ (x_2.snd = true ↔ tightB l a (↑x.fst : Int).toNat x_2.fst)) ∧ l.length - x_2.fst < l.length - x_1.fst ∧ (n = n ∧ l = l ∧ v = v ∧ a = a ∧ f = f ∧ true = x_2.snd ∧ (↑x.fst : Int) = (↑x.fst : Int) ∧ (↑x_1.fst : Int) + (1 : Int) = (↑x_2.fst : Int) ∧ True) ∧ True ∧ tabD = tabD ∧ True) ∧ (x_1.snd = false → inK IntKind.i64 ((↑(popN (↑((l.getD (↑x.fst : Int).toNat (0 : Int)).toNat &&& (l.getD (↑x_1.fst : Int).toNat (0 : Int)).toNat) : Int).toNat) : Int) - a) ∧ inK IntKind.i64 ((↑(popN (↑((l.getD (↑x.fst : Int).toNat (0 : Int)).toNat &&& (l.getD (↑x_1.fst : Int).toNat (0 : Int)).toNat) : Int).toNat) : Int) - a - (1 : Int)) ∧ inK IntKind.i64 (a + (1 : Int)) ∧ inK IntKind.i64 ((↑x_1.fst : Int) + (1 : Int)) ∧ ∃ (x_2 : Nat × Bool), (x_2.fst ≤ l.length ∧ (x_2.snd = true ↔ tightB l a (↑x.fst : Int).toNat x_2.fst)) ∧ l.length - x_2.fst < l.length - x_1.fst ∧ (n = n ∧ l = l ∧ v = v ∧ a = a ∧ f = f ∧ decide ((↑(popN (↑((l.getD (↑x.fst : Int).toNat (0 : Int)).toNat &&& (l.getD (↑x_1.fst : Int).toNat (0 : Int)).toNat) : Int).toNat) : Int) - a - (1 : Int) ≤ a + (1 : Int)) = x_2.snd ∧ (↑x.fst : Int) = (↑x.fst : Int) ∧ (↑x_1.fst : Int) + (1 : Int) = (↑x_2.fst : Int) ∧ True) ∧ True ∧ tabD = tabD ∧ True))) ∧ (decide ((↑x_1.fst : Int) < (↑l.length : Int)) = false → inK IntKind.i64 ((↑x.fst : Int) + (1 : Int)) ∧ ∃ (x_2 : Nat × Bool), (x_2.fst ≤ l.length ∧ (x_2.snd = true ↔ tightB l a x_2.fst (0 : Nat))) ∧ l.length - x_2.fst < l.length - x.fst ∧ (n = n ∧ l = l ∧ v = v ∧ a = a ∧ f = f ∧ x_1.snd = x_2.snd ∧ (↑x.fst : Int) + (1 : Int) = (↑x_2.fst : Int) ∧ True) ∧ True ∧ tabD = tabD ∧ True)) ∧ (decide ((↑x.fst : Int) < (↑l.length : Int)) = false → ((!x.snd) = true → k [Dat.mk Ty.bool false]) ∧ ((!x.snd) = false → (decide (v < (0 : Int)) = true → k [Dat.mk Ty.bool true]) ∧ (decide (v < (0 : Int)) = false → (n ≤ (61 : Int) ∧ True) ∧ (decide ((2 : Int) ^ n.toNat ≤ v) = true → k [Dat.mk Ty.bool true]) ∧ (decide ((2 : Int) ^ n.toNat ≤ v) = false → (v < (256 : Int) ∧ True) ∧ (decide (f < (↑(popN v.toNat) : Int)) = true → k [Dat.mk Ty.bool true]) ∧ (decide (f < (↑(popN v.toNat) : Int)) = false → (n ≤ (61 : Int) ∧ True) ∧ inK IntKind.i64 ((2 : Int) ^ n.toNat - (1 : Int)) ∧ inK IntKind.i64 ((2 : Int) ^ n.toNat - (1 : Int) - v) ∧ True ∧ (decide (hasE n l ((2 : Int) ^ n.toNat - (1 : Int) - v) = (0 : Int)) = true → k [Dat.mk Ty.bool (if hasE n l ((2 : Int) ^ n.toNat - (1 : Int) - v) = (0 : Int) then hasB l ((2 : Int) ^ n.toNat - (1 : Int) - v) else false)]) ∧ (decide (hasE n l ((2 : Int) ^ n.toNat - (1 : Int) - v) = (0 : Int)) = false → k [Dat.mk Ty.bool false])))))))))))) := by kernel_rfl
end Go.Proofs.YtlopkkoenfngiaaDoor

/- Quorums: how many bits. -/
namespace Go.Proofs.YtlopkkoenfngiaaDoor
open Go.Vc

theorem okMany : PlainOk Tryd.prog glT 47 cMany := by
  intro ds k hs w R0 vals hR0 hG hD
  obtain ⟨hp, hk⟩ := hs
  obtain ⟨n, rfl, h0, h1⟩ := dest1 hp
  have hk : k [⟨I, (popN n.toNat : Int)⟩] := hk
  obtain ⟨hl, hd⟩ := hD
  match vals, hl with
  | [v], _ =>
    have hv : v = .int .i64 n := by
      have h : Ty.okV w R0 I n v := hd 0 ⟨I, n⟩ v rfl rfl
      unfold Ty.okV at h
      simp only [Ty.agg, Bool.false_eq_true, if_false, Ty.ok] at h
      injection h.1
    subst hv
    obtain ⟨m, rfl⟩ := Int.eq_ofNat_of_zero_le h0
    refine (show Calls Tryd.prog 47 #[.int .i64 (m : Int)] w _ from many m (by omega) w).mono fun e w' ⟨he, hw⟩ => ?_
    subst hw
    refine ⟨Fr.refl _ _, [⟨I, (popN m : Int)⟩], _, he, by simpa using hk, ?_⟩
    have hle := popN_le ⟨8, by omega⟩ ⟨m, by omega⟩ (by show m < 2 ^ 8; omega)
    simp only at hle
    show Ty.okV _ _ I (popN m : Int) _
    unfold Ty.okV
    simp only [Ty.agg, Bool.false_eq_true, if_false, Ty.ok]
    exact ⟨trivial, inK_i64.2 (by omega)⟩

theorem popK_succ (x k : Nat) : popK x (k + 1) = popK x k + (if x.testBit k = true then 1 else 0) := by
  unfold popK
  rw [List.range_succ, List.filter_append, List.length_append, List.filter_cons]
  cases x.testBit k <;> rfl
theorem popK_le (x k : Nat) : popK x k ≤ k := by
  unfold popK
  exact Nat.le_trans (List.length_filter_le _ _) (by simp)
theorem popK_top {x k : Nat} (hx : x < 2 ^ k) (hk : k ≤ 8) : popK x k = popN x := by
  have key : ∀ d, k + d ≤ 8 → popK x (k + d) = popK x k := by
    intro d
    induction d with
    | zero => intro _; rfl
    | succ d ih =>
      intro hd
      have hb : x.testBit (k + d) = false := Nat.testBit_lt_two_pow (Nat.lt_of_lt_of_le hx (Nat.pow_le_pow_right (by decide) (by omega)))
      rw [← Nat.add_assoc, popK_succ, ih (by omega), hb]; rfl
  have := key (8 - k) (by omega)
  rw [show k + (8 - k) = 8 by omega] at this
  rw [← this]; rfl

theorem okManyR : PlainOk Tryd.prog glT 23 cManyR := by
  refine plain_of (CxOk.mk' Et_ok rfl mixed (gl := glT) GOk.nil GoOk.nil noIt) Tryd.func23 (c := Tryd.f23.body.getD .skip) (rvs := [(.tmp 2, I)]) (by kernel_rfl) (by kernel_rfl) (by kernel_rfl) ?_
  intro ds k ⟨hp, hk⟩ hwf
  obtain ⟨s, rfl, h256, -⟩ := dest1 hp
  have hk : k [⟨I, (popN s.toNat : Int)⟩] := hk
  have hs : inK .i64 s := wf1 hwf
  refine ⟨anManyR s, ?_⟩
  rw [vcManyR]
  simp only [decide_eq_true_eq, decide_eq_false_iff_not, and_true, true_and, ne_eq]
  have h20 : ¬ (2 : Int) = 0 := by decide
  refine ⟨⟨0, by omega, by simp, rfl⟩, fun x hx => ⟨fun h => ?_, fun h => ?_⟩⟩
  · have hpos : 0 ≤ s := by
      refine Int.not_lt.1 fun hneg => ?_
      have := Int.tdiv_nonneg (a := -s) (b := (2 : Int) ^ x) (by omega) (Int.le_of_lt (two_pow_pos x))
      rw [Int.neg_tdiv] at this; omega
    obtain ⟨m, rfl⟩ := Int.eq_ofNat_of_zero_le hpos
    simp only [Int.toNat_natCast] at *
    have hx7 : x ≤ 7 := by
      rcases Nat.lt_or_ge x 8 with h1 | h1
      · omega
      · have hx8 : x = 8 := by omega
        subst hx8
        rw [tdivN] at h
        have : m / 2 ^ 8 = 0 := Nat.div_eq_of_lt (by omega)
        rw [this] at h
        exact absurd h (by decide)
    have hle := popK_le m x
    have hmod : ((m : Int).tdiv ((2 : Int) ^ x)).tmod 2 = if m.testBit x = true then 1 else 0 := by
      have h1 := tmod_bit m x
      have h2 := Int.tmod_two_eq ((m : Int).tdiv ((2 : Int) ^ x))
      have h3 := Int.tmod_nonneg (a := (m : Int).tdiv ((2 : Int) ^ x)) 2 (by omega)
      by_cases hb : m.testBit x = true
      · rw [if_pos hb]; exact h1.2 hb
      · rw [if_neg hb]
        have : ¬ ((m : Int).tdiv ((2 : Int) ^ x)).tmod 2 = 1 := fun e => hb (h1.1 e)
        omega
    have hst := popK_succ m x
    refine ⟨h20, (tdiv_in hs x).2, ?_, h20, by rw [tdiv_pow]; exact (tdiv_in hs (x + 1)).1, x + 1, by omega, by omega, tdiv_pow _ _, ?_⟩
    · rw [hmod]
      split <;> exact inK_i64.2 (by omega)
    · rw [hmod, hst]
      split <;> simp
  · have : popK s.toNat x = popN s.toNat := by
      refine popK_top ?_ hx
      by_cases hpos : 0 ≤ s
      · obtain ⟨m, rfl⟩ := Int.eq_ofNat_of_zero_le hpos
        rw [tdivN] at h
        rw [Int.toNat_natCast]
        have h0 : m / 2 ^ x = 0 := by
          generalize m / 2 ^ x = q at h
          omega
        rcases Nat.lt_or_ge m (2 ^ x) with h1 | h1
        · exact h1
        · have := Nat.div_pos h1 (Nat.two_pow_pos x); omega
      · have hneg : s < (0 : Int) := Int.not_le.1 hpos
        have : s.toNat = 0 := Int.toNat_of_nonpos (Int.le_of_lt hneg)
        rw [this]; exact Nat.two_pow_pos x
    rw [this]; exact hk

theorem mp_step {n : Int} {l : List Int} {i j : Nat} {m : Int} (hi : i < l.length) (hj : j ≤ i) (h : MP n l i j m) : MP n l i (j + 1) (min m (popI (l.getD i 0) (l.getD j 0))) := by
  obtain ⟨h1, h2, h3⟩ := h
  refine ⟨by omega, fun a b hab => ?_, ?_⟩
  · by_cases hc : a = i ∧ b = j
    · obtain ⟨rfl, rfl⟩ := hc
      omega
    · have := h2 a b (by omega)
      omega
  · rcases Int.le_total m (popI (l.getD i 0) (l.getD j 0)) with hle | hle
    · rw [Int.min_eq_left hle]; exact h3
    · rw [Int.min_eq_right hle]
      exact .inr ⟨i, j, hi, by omega, rfl⟩
theorem mp_next {n : Int} {l : List Int} {i : Nat} {m : Int} (h : MP n l i (i + 1) m) : MP n l (i + 1) 0 m := by
  obtain ⟨h1, h2, h3⟩ := h
  exact ⟨h1, fun a b hab => h2 a b (by omega), h3⟩

theorem masks_vc (n : Int) (l : List Int) (k : List Dat → Prop) (hk : ∀ a f : Int, (chkS n l = 0 → (∃ m : Int, MP n l l.length 0 m ∧ a = (m - 1).tdiv 2) ∧ FP n l (2 ^ n.toNat) f) → (chkS n l ≠ 0 → a = 0 ∧ f = 0) → k [⟨I, a⟩, ⟨I, f⟩, ⟨tErr, chkS n l⟩]) :
    vcF ⟨Et, [(20, cCheck), (42, cHas0), (47, cMany)], glT, [], []⟩ (anMasks n l) (Tryd.f22.body.getD .skip) Tryd.f22.ntmps [(.tmp 4, I), (.tmp 5, I), (.tmp 6, tErr)] [⟨I, n⟩, ⟨.sl I, l⟩] k := by
  rw [vcMasks]
  simp only [decide_eq_true_eq, decide_eq_false_iff_not, and_true, true_and, Bool.not_eq_true', Bool.not_eq_false', Int.toNat_natCast]
  refine ⟨fun h => hk 0 0 (fun e => absurd e h) fun _ => ⟨rfl, rfl⟩, fun h => ?_⟩
  have g := sets_of h
  have hn := g.rng
  have hlen := g.len
  have hpw := pow8 hn.2
  have hpp := Nat.two_pow_pos n.toNat
  have hpc := powC n.toNat
  rw [h] at hk
  have hmem : ∀ s ∈ l, 0 ≤ s := fun s hs => by have := g.mem s hs; omega
  simp only [h, true_and]
  refine ⟨⟨(0, n), ⟨by simp only; omega, Int.le_refl _, fun a b hab => by omega, .inl rfl⟩, rfl, rfl⟩, fun x ⟨hx, hmp⟩ => ⟨fun hlt => ?_, fun hge => ?_⟩⟩
  · obtain ⟨i, m⟩ := x
    simp only at *
    have hil : i < l.length := by omega
    have htk : ∀ y, y ≤ i → (List.drop (Int.toNat 0) (List.take ((i : Int) + 1).toNat l)).getD y 0 = l.getD y 0 := by
      intro y hy
      have e : List.drop (Int.toNat 0) (List.take ((i : Int) + 1).toNat l) = l.take (i + 1) := by
        rw [show ((i : Int) + 1).toNat = i + 1 by omega]; rfl
      have hlt' : y < (l.take (i + 1)).length := by rw [List.length_take]; omega
      rw [e, getD_at hlt', getD_at (by omega), List.getElem_take]
    have hdl : (List.drop (Int.toNat 0) (List.take ((i : Int) + 1).toNat l)).length = i + 1 := by
      have e : List.drop (Int.toNat 0) (List.take ((i : Int) + 1).toNat l) = l.take (i + 1) := by
        rw [show ((i : Int) + 1).toNat = i + 1 by omega]; rfl
      rw [e, List.length_take]; omega
    rw [hdl]
    refine ⟨by omega, hlt, inK_i64.2 (by omega), by omega, by omega, by omega, ⟨(0, m), ⟨by simp only; omega, hmp⟩, rfl, rfl⟩, fun y ⟨hy, hmy⟩ => ⟨fun hlt2 => ?_, fun hge2 => ?_⟩⟩
    · obtain ⟨j, m2⟩ := y
      simp only at *
      have hji : j ≤ i := by omega
      rw [htk j hji]
      have h1 := hmem _ (getD_mem hil)
      have h2 := hmem _ (getD_mem (l := l) (i := j) (by omega))
      have h3 := g.mem _ (getD_mem hil)
      have hlt256 : (l.getD i 0).toNat &&& (l.getD j 0).toNat < 256 := by
        refine Nat.lt_of_le_of_lt Nat.and_le_left ?_
        rw [hpc] at h3; omega
      exact ⟨by omega, by omega, h1, h2, ⟨by omega, by omega⟩, inK_i64.2 (by omega), (j + 1, min m2 (popI (l.getD i 0) (l.getD j 0))), ⟨by simp only; omega, mp_step hil hji hmy⟩, by simp only; omega, rfl, by simp only; omega⟩
    · obtain ⟨j, m2⟩ := y
      simp only at *
      have hji : j = i + 1 := by omega
      subst hji
      exact ⟨inK_i64.2 (by omega), (i + 1, m2), ⟨by simp only; omega, mp_next hmy⟩, by simp only; omega, rfl, by simp only; omega⟩
  · obtain ⟨i, m⟩ := x
    simp only at *
    have hil : i = l.length := by omega
    subst hil
    have hmpe := mp_end g hmp
    refine ⟨by omega, by omega, rfl, inK_i64.2 (by rw [hpc]; omega), ⟨(0, n), ⟨by simp only; omega, Int.le_refl _, fun a ha => by omega, .inl rfl⟩, rfl, rfl⟩, fun x ⟨hx, hfp⟩ => ⟨fun hlt => ?_, fun hge3 => ?_⟩⟩
    · obtain ⟨x, f⟩ := x
      simp only at *
      have hxl : x < 2 ^ n.toNat := by rw [hpc] at hlt; omega
      have hpx := popN_le ⟨8, by omega⟩ ⟨x, by omega⟩ (by show x < 2 ^ 8; omega)
      simp only at hpx
      refine ⟨by omega, by omega, rfl, inK_i64.2 (by rw [hpc]; omega), inK_i64.2 (by rw [hpc]; omega), by rw [hpc]; omega, by omega, ⟨Int.natCast_nonneg _, hmem⟩, fun hb => ⟨⟨by omega, by omega⟩, inK_i64.2 (by omega), inK_i64.2 (by omega), (x + 1, min f ((popN x : Int) - 1)), ⟨by simp only; omega, ?_⟩, by simp only; omega, rfl, by simp only; omega⟩,
        fun hb => ⟨inK_i64.2 (by omega), (x + 1, f), ⟨by simp only; omega, ?_⟩, by simp only; omega, rfl, by simp only; omega⟩⟩
      · obtain ⟨h1, h2, h3⟩ := hfp
        refine ⟨by omega, fun y hy hyb => ?_, ?_⟩
        · rcases Nat.lt_or_ge y x with h4 | h4
          · have := h2 y h4 hyb; omega
          · have : y = x := by omega
            subst this; omega
        · rcases Int.le_total f ((popN x : Int) - 1) with hle | hle
          · rw [Int.min_eq_left hle]; exact h3
          · rw [Int.min_eq_right hle]
            exact .inr ⟨x, hxl, hb, rfl⟩
      · obtain ⟨h1, h2, h3⟩ := hfp
        refine ⟨h1, fun y hy hyb => ?_, h3⟩
        rcases Nat.lt_or_ge y x with h4 | h4
        · exact h2 y h4 hyb
        · have : y = x := by omega
          subst this
          have hb' : hasB l (complN n (y : Int)) = true := hb
          rw [hb'] at hyb; cases hyb
    · obtain ⟨x, f⟩ := x
      simp only at *
      have hxe : x = 2 ^ n.toNat := by rw [hpc] at hge3; omega
      subst hxe
      have hm1 := hmpe.2.1
      have hm2 := hmp.1
      have hq : 0 ≤ (m - 1).tdiv 2 ∧ (m - 1).tdiv 2 ≤ m - 1 := by
        rw [Int.tdiv_eq_ediv_of_nonneg (by omega)]
        omega
      refine ⟨inK_i64.2 (by omega), by decide, inK_i64.2 (by omega), ?_⟩
      exact hk _ f (fun _ => ⟨⟨m, hmp, rfl⟩, hfp⟩) fun e => absurd rfl e

theorem okMasks : PlainOk Tryd.prog glT 22 cMasks := by
  refine plain_of (CxOk.mk' Et_ok rfl mixed (gl := glT) (GOk.cons okCheck Tryd.func20 (by kernel_rfl) (by kernel_rfl) (GOk.cons okHas0 Tryd.func42 (by kernel_rfl) (by kernel_rfl) (GOk.cons okMany Tryd.func47 (by kernel_rfl) (by kernel_rfl) GOk.nil))) GoOk.nil noIt) Tryd.func22 (c := Tryd.f22.body.getD .skip) (rvs := [(.tmp 4, I), (.tmp 5, I), (.tmp 6, tErr)]) (by kernel_rfl) (by kernel_rfl) (by kernel_rfl) ?_
  intro ds k hs hwf
  obtain ⟨n, l, rfl, h⟩ := gdest2 hs
  exact ⟨anMasks n l, masks_vc n l k h⟩
end Go.Proofs.YtlopkkoenfngiaaDoor

/- Generals: asking, at any depth; deciding. -/
namespace Go.Proofs.YtlopkkoenfngiaaDoor
open Go.Vc
theorem ownAsk (d : Nat) (h : PlainOk Tryd.prog glT 51 (cAsk d)) : OwnOk Tryd.prog glT 51 (oAsk (d + 1)) := by
  refine own_of (CxOk.mk' En_ok rfl mixed (gl := glT) (GOk.cons okBits Tryd.func41 (by kernel_rfl) (by kernel_rfl) (GOk.cons okSends.lift Tryd.func61 (by kernel_rfl) (by kernel_rfl) (GOk.cons okMany Tryd.func47 (by kernel_rfl) (by kernel_rfl) (GOk.cons h Tryd.func51 (by kernel_rfl) (by kernel_rfl) GOk.nil)))) GoOk.nil itB) Tryd.func51 (c := Tryd.f51.body.getD .skip) (rvs := [(.tmp 8, .un)]) (by kernel_rfl) (by kernel_rfl) (by kernel_rfl) ?_
  rintro args ob k ⟨a, p, i, o, rfl, rfl, hs, hk⟩ _ _
  exact ⟨anAsk a p i o, ask_vc d a p i o k hs hk⟩
theorem okAsk : ∀ d, PlainOk Tryd.prog glT 51 (cAsk d)
  | 0 => by
    intro ds k ⟨hp, hk⟩
    obtain ⟨a, p, i, o, rfl, hs⟩ := dest4 hp
    have := hs.k0
    have := hs.kd
    omega
  | d + 1 => by
    refine plain_of_own (ownAsk d (okAsk d)) fun ds k ⟨hp, hk⟩ => ?_
    obtain ⟨a, p, i, o, rfl, hs⟩ := dest4 hp
    exact ⟨a, p, i, o, rfl, rfl, hs, .sl I, _, _, rfl, hk⟩
/-- the same contract, said of what it is handed -/
def oAskM (d : Nat) : OCtr := fun args ob k =>
  match args, ob with
  | [.d (.pr (.int .i64) (.pr (.int .i64) (.pr (.sl (.int .i64)) .un))) a, .d (.sl (.int .i64)) p, .d (.int .i64) i, .d (.int .i64) o], [] => AskOk d a p i o ∧ k (.os 0) [.row 3 I (askF a i.toNat p o)]
  | _, _ => False
theorem ownAskM (d : Nat) : OwnOk Tryd.prog glT 51 (oAskM (d + 1)) := fun args ob k h => ownAsk d (okAsk d) args ob k (by
  unfold oAskM at h
  split at h
  · exact ⟨_, _, _, _, rfl, rfl, h.1, h.2⟩
  · exact h.elim)
/-- what is wrong with an army -/
def gErr (n deep liars order : Int) (lies : List Int) : Int :=
  if inB n 1 7 = false ∨ inB deep 0 2 = false ∨ maskB liars n = false ∨ inB order 0 1 = false then 1
  else if lies.length = 0 then 5 else if 24 < lies.length then 4 else if lies.all (fun x => inB x 0 1) = true then 0 else 1
def cGChk : Ctr := cdet [I, I, I, I, .sl I] (fun _ _ _ _ _ => True) (fun n deep liars order lies => [⟨tErr, gErr n deep liars order lies⟩])
def anGChk (l : List Int) : Ann := [joinAll, loopAt 8 Nat [] (fun st i => St.at (St.only st [0, 1, 2, 3, 4, 10, 41, 42]) [(43, .d I (i : Int))]) (fun _ i => i ≤ l.length ∧ ∀ x ∈ l.take i, inB x 0 1 = true) (fun i => l.length - i)]
def arOf (n liars : Int) (lies : List Int) : Ar := (n, liars, lies, ())
/-- what each does -/
def decF (n deep liars order : Int) (lies : List Int) : List Int :=
  if gErr n deep liars order lies = 0 then (askF (arOf n liars lies) deep.toNat [0] order).set 0 order else []
def cDecide : Ctr := cdet [I, I, I, I, .sl I] (fun _ _ _ _ _ => True) (fun n deep liars order lies => [⟨.sl I, decF n deep liars order lies⟩, ⟨tErr, gErr n deep liars order lies⟩])
end Go.Proofs.YtlopkkoenfngiaaDoor

/- What the functions of this seat have to satisfy, by program: each verification condition in plain words. -/
namespace Go.Proofs.YtlopkkoenfngiaaDoor
open Go.Vc
set_option linter.unusedVariables false
theorem vcGChk (n deep liars order : Int) (lies : List Int) (k : List Dat → Prop) : vcF ⟨En, [(39, cWithin), (43, cMask)], glT, [], []⟩ (anGChk lies) (Tryd.f37.body.getD .skip) Tryd.f37.ntmps [(.tmp 10, tErr)] [⟨I, n⟩, ⟨I, deep⟩, ⟨I, liars⟩, ⟨I, order⟩, ⟨.sl I, lies⟩] k = (
  True ∧ ((!inB n (1 : Int) (7 : Int)) = true → (1 : Int) ≠ (0 : Int) ∧ k [Dat.mk (Ty.err (58 : Nat)) (1 : Int)]) ∧ ((!inB n (1 : Int) (7 : Int)) = false → True ∧ ((!inB deep (0 : Int) (2 : Int)) = true → (1 : Int) ≠ (0 : Int) ∧ k [Dat.mk (Ty.err (58 : Nat)) (1 : Int)]) ∧ ((!inB deep (0 : Int) (2 : Int)) = false → ((0 : Int) ≤ n ∧ n ≤ (61 : Int)) ∧ ((!maskB liars n) = true → (1 : Int) ≠ (0 : Int) ∧ k [Dat.mk (Ty.err (58 : Nat)) (1 : Int)]) ∧ ((!maskB liars n) = false → True ∧ ((!inB order (0 : Int) (1 : Int)) = true → (1 : Int) ≠ (0 : Int) ∧ k [Dat.mk (Ty.err (58 : Nat)) (1 : Int)]) ∧ ((!inB order (0 : Int) (1 : Int)) = false → (decide ((↑lies.length : Int) = (0 : Int)) = true → (5 : Int) ≠ (0 : Int) ∧ k [Dat.mk (Ty.err (58 : Nat)) (5 : Int)]) ∧ (decide ((↑lies.length : Int) = (0 : Int)) = false → (decide ((24 : Int) < (↑lies.length : Int)) = true → (4 : Int) ≠ (0 : Int) ∧ k [Dat.mk (Ty.err (58 : Nat)) (4 : Int)]) ∧ (decide ((24 : Int) < (↑lies.length : Int)) = false → (∃ (x : Nat), (x ≤ lies.length ∧ ∀ (x_1 : Int), x_1 ∈ List.take x lies → inB x_1 (0 : Int) (1 : Int) = true) ∧ (n = n ∧ deep = deep ∧ liars = liars ∧ order = order ∧ lies = lies ∧ (0 : Int) = (0 : Int) ∧ lies = lies ∧ (↑lies.length : Int) = (↑lies.length : Int) ∧ (0 : Int) = (↑x : Int) ∧ True) ∧ True ∧ tabD = tabD ∧ True) ∧ ∀ (x : Nat), (x ≤ lies.length ∧ ∀ (x_1 : Int), x_1 ∈ List.take x lies → inB x_1 (0 : Int) (1 : Int) = true) → (decide ((↑x : Int) < (↑lies.length : Int)) = true → (0 : Int) ≤ (↑x : Int) ∧ (↑x : Int) < (↑lies.length : Int) ∧ True ∧ ((!inB (lies.getD (↑x : Int).toNat (0 : Int)) (0 : Int) (1 : Int)) = true → (1 : Int) ≠ (0 : Int) ∧ k [Dat.mk (Ty.err (58 : Nat)) (1 : Int)]) ∧ ((!inB (lies.getD (↑x : Int).toNat (0 : Int)) (0 : Int) (1 : Int)) = false → inK IntKind.i64 ((↑x : Int) + (1 : Int)) ∧ ∃ (x_1 : Nat), (x_1 ≤ lies.length ∧ ∀ (x : Int), x ∈ List.take x_1 lies → inB x (0 : Int) (1 : Int) = true) ∧ lies.length - x_1 < lies.length - x ∧ (n = n ∧ deep = deep ∧ liars = liars ∧ order = order ∧ lies = lies ∧ (0 : Int) = (0 : Int) ∧ lies = lies ∧ (↑lies.length : Int) = (↑lies.length : Int) ∧ (↑x : Int) + (1 : Int) = (↑x_1 : Int) ∧ True) ∧ True ∧ tabD = tabD ∧ True)) ∧ (decide ((↑x : Int) < (↑lies.length : Int)) = false → k [Dat.mk (Ty.err (58 : Nat)) (0 : Int)])))))))) := by kernel_rfl
theorem vcDecide (n deep liars order : Int) (lies : List Int) (k : List Dat → Prop) : vcF ⟨En, [(37, cGChk)], glT, [], [(51, oAskM 3)]⟩ [] (Tryd.f34.body.getD .skip) Tryd.f34.ntmps [(.tmp 10, .sl I), (.tmp 11, tErr)] [⟨I, n⟩, ⟨I, deep⟩, ⟨I, liars⟩, ⟨I, order⟩, ⟨.sl I, lies⟩] k = (
  True ∧ ((!decide (gErr n deep liars order lies = (0 : Int))) = true → k [Dat.mk (I).sl [], Dat.mk (Ty.err (58 : Nat)) (gErr n deep liars order lies)]) ∧ ((!decide (gErr n deep liars order lies = (0 : Int))) = false → AskOk (3 : Nat) (n, liars, lies, ()) ((List.replicate (1 : Nat) (0 : Int)).set (0 : Nat) (0 : Int)) deep order ∧ (0 : Int) ≤ (0 : Int) ∧ (0 : Int) < (↑(askF (n, liars, lies, ()) deep.toNat ((List.replicate (1 : Nat) (0 : Int)).set (0 : Nat) (0 : Int)) order).length : Int) ∧ k [Dat.mk (I).sl ((askF (n, liars, lies, ()) deep.toNat ((List.replicate (1 : Nat) (0 : Int)).set (0 : Nat) (0 : Int)) order).set (0 : Nat) order), Dat.mk (Ty.err (58 : Nat)) (0 : Int)])) := by kernel_rfl
end Go.Proofs.YtlopkkoenfngiaaDoor

/- Generals: checking, deciding. -/
namespace Go.Proofs.YtlopkkoenfngiaaDoor
open Go.Vc
theorem gchk_vc (n deep liars order : Int) (lies : List Int) (k : List Dat → Prop) (hk : k [⟨tErr, gErr n deep liars order lies⟩]) :
    vcF ⟨En, [(39, cWithin), (43, cMask)], glT, [], []⟩ (anGChk lies) (Tryd.f37.body.getD .skip) Tryd.f37.ntmps [(.tmp 10, tErr)] [⟨I, n⟩, ⟨I, deep⟩, ⟨I, liars⟩, ⟨I, order⟩, ⟨.sl I, lies⟩] k := by
  rw [vcGChk]
  simp only [Bool.not_eq_true', Bool.not_eq_false', and_true, true_and]
  unfold gErr at hk
  refine ⟨fun h1 => ⟨by decide, ?_⟩, fun h1 => ⟨fun h2 => ⟨by decide, ?_⟩, fun h2 => ⟨by have := inB_of h1; omega, fun h3 => ⟨by decide, ?_⟩, fun h3 => ⟨fun h4 => ⟨by decide, ?_⟩, fun h4 => ⟨fun h5 => ⟨by decide, ?_⟩, fun h5 => ⟨fun h6 => ⟨by decide, ?_⟩, fun h6 => ⟨⟨0, ⟨by omega, by simp⟩, rfl⟩, fun x ⟨hx, hall⟩ => ⟨fun h7 => ⟨by omega, ?_⟩, fun h7 => ?_⟩⟩⟩⟩⟩⟩⟩⟩
  · rw [if_pos (.inl h1)] at hk; exact hk
  · rw [if_pos (.inr (.inl h2))] at hk; exact hk
  · rw [if_pos (.inr (.inr (.inl h3)))] at hk; exact hk
  · rw [if_pos (.inr (.inr (.inr h4)))] at hk; exact hk
  all_goals
    rw [if_neg (by simp [h1, h2, h3, h4])] at hk
  · have : lies.length = 0 := by have := of_decide_eq_true h5; omega
    rw [if_pos this] at hk; exact hk
  all_goals
    have h5 := of_decide_eq_false h5
    rw [if_neg (by omega)] at hk
  · have : 24 < lies.length := by have := of_decide_eq_true h6; omega
    rw [if_pos this] at hk; exact hk
  all_goals
    have h6 := of_decide_eq_false h6
    rw [if_neg (by omega)] at hk
  · have h7 := of_decide_eq_true h7
    have hl : x < lies.length := by omega
    rw [Int.toNat_natCast]
    refine ⟨by omega, fun h8 => ⟨by decide, ?_⟩, fun h8 => ⟨inK_i64.2 (by omega), x + 1, ⟨by omega, fun y hy => ?_⟩, by omega, by omega⟩⟩
    · have : ¬ (lies.all fun x => inB x 0 1) = true := fun h => by
        have := List.all_eq_true.1 h _ (getD_mem hl)
        rw [h8] at this; cases this
      rw [if_neg this] at hk; exact hk
    · rw [take_snoc hl] at hy
      rcases List.mem_append.1 hy with hy | hy
      · exact hall y hy
      · rw [List.mem_singleton.1 hy]; exact h8
  · have h7 := of_decide_eq_false h7
    have hl : x = lies.length := by omega
    rw [hl, List.take_length] at hall
    rw [if_pos (List.all_eq_true.2 hall)] at hk; exact hk
theorem okGChk : PlainOk Tryd.prog glT 37 cGChk := by
  refine plain_of (CxOk.mk' En_ok rfl mixed (gl := glT) (GOk.cons okWithin Tryd.func39 (by kernel_rfl) (by kernel_rfl) (GOk.cons okMask Tryd.func43 (by kernel_rfl) (by kernel_rfl) GOk.nil)) GoOk.nil noIt) Tryd.func37 (c := Tryd.f37.body.getD .skip) (rvs := [(.tmp 10, tErr)]) (by kernel_rfl) (by kernel_rfl) (by kernel_rfl) ?_
  intro ds k ⟨hp, hk⟩ hwf
  obtain ⟨n, d, l, o, x, rfl, -⟩ := dest5 hp
  exact ⟨anGChk x, gchk_vc n d l o x k hk⟩

structure GE (n deep liars order : Int) (lies : List Int) : Prop where
  hn : 1 ≤ n ∧ n ≤ 7
  hd : 0 ≤ deep ∧ deep ≤ 2
  hl : 0 ≤ liars ∧ liars < 2 ^ n.toNat
  ho : 0 ≤ order ∧ order ≤ 1
  ar : ArOk (arOf n liars lies)
theorem ge_of {n deep liars order : Int} {lies : List Int} (h : gErr n deep liars order lies = 0) : GE n deep liars order lies := by
  unfold gErr at h
  split at h
  · cases h
  rename_i h1
  split at h
  · cases h
  split at h
  · cases h
  split at h
  · rename_i h2 h3 h4
    simp only [not_or, Bool.not_eq_false] at h1
    obtain ⟨a, b, c, d⟩ := h1
    have a := inB_of a
    have b := inB_of b
    have c := mask_of c
    have d := inB_of d
    refine ⟨a, b, c, d, ⟨a.1, a.2, c.1, ?_, ?_, fun x hx => inB_of (List.all_eq_true.1 h4 x hx)⟩⟩
    · show 0 < lies.length; omega
    · show lies.length ≤ 24; omega
  · cases h
theorem dec_vc (n deep liars order : Int) (lies : List Int) (k : List Dat → Prop) (hk : k [⟨.sl I, decF n deep liars order lies⟩, ⟨tErr, gErr n deep liars order lies⟩]) :
    vcF ⟨En, [(37, cGChk)], glT, [], [(51, oAskM 3)]⟩ [] (Tryd.f34.body.getD .skip) Tryd.f34.ntmps [(.tmp 10, .sl I), (.tmp 11, tErr)] [⟨I, n⟩, ⟨I, deep⟩, ⟨I, liars⟩, ⟨I, order⟩, ⟨.sl I, lies⟩] k := by
  rw [vcDecide]
  simp only [Bool.not_eq_true', Bool.not_eq_false', and_true, true_and]
  refine ⟨fun h => ?_, fun h => ?_⟩
  · have h := of_decide_eq_false h
    unfold decF at hk
    rw [if_neg h] at hk
    exact hk
  · have h := of_decide_eq_true h
    have g := ge_of h
    unfold decF at hk
    rw [if_pos h, h] at hk
    have hn := g.hn
    have hd := g.hd
    refine ⟨⟨g.ar, ⟨by decide, by decide, fun y hy => ?_⟩, g.ho, hd.1, by omega, ?_⟩, by decide, ?_, hk⟩
    · have : y = 0 := by simpa [set1] using hy
      subst this
      show (0 : Int) ≤ 0 ∧ 0 < n
      omega
    · show (1 : Int) + deep ≤ 3
      omega
    · rw [ask_len]
      show (0 : Int) < (n.toNat : Int)
      omega
theorem okDecide : PlainOk Tryd.prog glT 34 cDecide := by
  refine plain_of (CxOk.mk' En_ok rfl mixed (gl := glT) (GOk.cons okGChk Tryd.func37 (by kernel_rfl) (by kernel_rfl) GOk.nil) (GoOk.cons (ownAskM 2) Tryd.func51 (by kernel_rfl) (by kernel_rfl) GoOk.nil) noIt) Tryd.func34 (c := Tryd.f34.body.getD .skip) (rvs := [(.tmp 10, .sl I), (.tmp 11, tErr)]) (by kernel_rfl) (by kernel_rfl) (by kernel_rfl) ?_
  intro ds k ⟨hp, hk⟩ hwf
  obtain ⟨n, d, l, o, x, rfl, -⟩ := dest5 hp
  exact ⟨[], dec_vc n d l o x k hk⟩
end Go.Proofs.YtlopkkoenfngiaaDoor

/- Generals: what the answers are, one by one; who agrees. -/
namespace Go.Proofs.YtlopkkoenfngiaaDoor
open Go.Vc

/-! sums over the first few -/
def S (k : Nat) (f : Nat → Int) : Int := ((List.range k).map f).sum
theorem S_succ (k : Nat) (f : Nat → Int) : S (k + 1) f = S k f + f k := by
  unfold S; rw [List.range_succ, List.map_append, List.sum_append]; simp
theorem S_mono {f g : Nat → Int} : ∀ k, (∀ j, j < k → f j ≤ g j) → S k f ≤ S k g := by
  intro k
  induction k with
  | zero => intro _; exact Int.le_refl _
  | succ k ih =>
    intro h
    rw [S_succ, S_succ]
    have := ih fun j hj => h j (by omega)
    have := h k (by omega)
    omega
theorem S_congr {f g : Nat → Int} : ∀ k, (∀ j, j < k → f j = g j) → S k f = S k g := by
  intro k
  induction k with
  | zero => intro _; rfl
  | succ k ih =>
    intro h
    rw [S_succ, S_succ, ih fun j hj => h j (by omega), h k (by omega)]
theorem S_add (f g : Nat → Int) : ∀ k, S k (fun j => f j + g j) = S k f + S k g := by
  intro k
  induction k with
  | zero => rfl
  | succ k ih => rw [S_succ, S_succ, S_succ, ih]; omega
theorem S_zero : ∀ k, S k (fun _ => 0) = 0 := by
  intro k
  induction k with
  | zero => rfl
  | succ k ih => rw [S_succ, ih]; rfl
theorem S_stop {f : Nat → Int} {m : Nat} : ∀ k, (∀ j, m ≤ j → f j = 0) → S (m + k) f = S m f := by
  intro k h
  induction k with
  | zero => rfl
  | succ k ih => rw [← Nat.add_assoc, S_succ, ih, h _ (by omega)]; omega
theorem S_split {f : Nat → Int} {j : Nat} : ∀ k, j < k → S k f = S k (fun i => if i = j then 0 else f i) + f j := by
  intro k
  induction k with
  | zero => intro h; omega
  | succ k ih =>
    intro h
    rw [S_succ, S_succ]
    rcases Nat.lt_or_ge j k with hj | hj
    · rw [ih hj, if_neg (by omega)]; omega
    · have : j = k := by omega
      subst this
      rw [if_pos rfl, S_congr j (g := fun i => if i = j then 0 else f i) fun i hi => by rw [if_neg (by omega)]]
      omega
theorem bits_sum (f : Int → Int) {r : Nat} (hr : r < 128) : ((bitsOf (r : Int)).map f).sum = S 64 fun j => if r.testBit j = true then f j else 0 := by
  unfold bitsOf bitsN S
  have e : ((r : Int) % 18446744073709551616).toNat = r := by omega
  rw [e, List.map_map, filter_sum, List.range_eq_range']
  rfl
theorem pop_sum {r : Nat} (hr : r < 128) : (popN r : Int) = S 64 fun j => if r.testBit j = true then 1 else 0 := by
  have h : ∀ j, 8 ≤ j → (if r.testBit j = true then (1 : Int) else 0) = 0 := fun j hj => by
    rw [Nat.testBit_lt_two_pow (Nat.lt_of_lt_of_le (show r < 2 ^ 8 by omega) (Nat.pow_le_pow_right (by decide) hj))]; rfl
  rw [show (64 : Nat) = 8 + 56 from rfl, S_stop 56 h]
  unfold popN S
  rw [← filter_sum (fun _ => (1 : Int))]
  have : ∀ l : List Nat, ((l.map fun _ => (1 : Int)).sum) = (l.length : Int) := by
    intro l; induction l with
    | nil => rfl
    | cons a r ih => rw [List.map_cons, List.sum_cons, ih, List.length_cons]; omega
  rw [this]

/-! one by one -/
theorem got_at (a : Ar) (p : List Int) (o : Int) {x : List Int} (hx : ∀ y ∈ x, 0 ≤ y) {j : Nat} (hj : (j : Int) ∈ x) (hl : j < a.1.toNat) : (gotL a p o x).getD j 0 = sendsF a p j o := by
  have key : ∀ (x : List Int) (g : List Int), (∀ y ∈ x, 0 ≤ y) → j < g.length → (x.foldl (fun g i => g.set i.toNat (sendsF a p i o)) g).getD j 0 = if (j : Int) ∈ x then sendsF a p j o else g.getD j 0 := by
    intro x
    induction x with
    | nil => intro g _ _; simp
    | cons b r ih =>
      intro g h hg
      rw [List.foldl_cons, ih _ (fun y hy => h y (.tail _ hy)) (by rw [List.length_set]; exact hg), getD_set]
      have hb := h b (.head _)
      by_cases h1 : (j : Int) ∈ r
      · rw [if_pos h1, if_pos (.tail _ h1)]
      · rw [if_neg h1]
        by_cases h2 : b.toNat = j
        · have : (j : Int) = b := by omega
          rw [if_pos h2, if_pos hg, if_pos (by rw [this]; exact .head _), this]
        · rw [if_neg h2, if_neg fun h => by
            rcases List.mem_cons.1 h with h | h
            · omega
            · exact h1 h]
  unfold gotL
  rw [key x _ hx (by rw [List.length_replicate]; exact hl), if_pos hj]
theorem out_at (n many : Int) (ye go : List Int) {x : List Int} (hx : ∀ y ∈ x, 0 ≤ y) {j : Nat} (hj : (j : Int) ∈ x) (hl : j < n.toNat) :
    (outL n many ye go x).getD j 0 = if many < 2 * (ye.getD j 0 + go.getD j 0) then 1 else 0 := by
  have key : ∀ (x : List Int) (g : List Int), (∀ y ∈ x, 0 ≤ y) → j < g.length →
      (x.foldl (fun u i => if many < 2 * (ye.getD i.toNat 0 + go.getD i.toNat 0) then u.set i.toNat 1 else u) g).getD j 0 = if (j : Int) ∈ x ∧ many < 2 * (ye.getD j 0 + go.getD j 0) then 1 else g.getD j 0 := by
    intro x
    induction x with
    | nil => intro g _ _; simp
    | cons b r ih =>
      intro g h hg
      have hb := h b (.head _)
      rw [List.foldl_cons, ih _ (fun y hy => h y (.tail _ hy)) (by split <;> simp [hg])]
      by_cases hc : many < 2 * (ye.getD j 0 + go.getD j 0)
      · by_cases h1 : (j : Int) ∈ r
        · rw [if_pos ⟨h1, hc⟩, if_pos ⟨.tail _ h1, hc⟩]
        · rw [if_neg fun h => h1 h.1]
          by_cases h2 : b.toNat = j
          · have : (j : Int) = b := by omega
            rw [h2, if_pos hc, getD_set, if_pos rfl, if_pos hg, if_pos ⟨by rw [this]; exact .head _, hc⟩]
          · rw [if_neg (c := (j : Int) ∈ b :: r ∧ _) fun h => by
              rcases List.mem_cons.1 h.1 with h | h
              · omega
              · exact h1 h]
            split
            · rw [getD_set, if_neg h2]
            · rfl
      · have c1 : ¬ ((j : Int) ∈ r ∧ many < 2 * (ye.getD j 0 + go.getD j 0)) := fun h => hc h.2
        have c2 : ¬ ((j : Int) ∈ b :: r ∧ many < 2 * (ye.getD j 0 + go.getD j 0)) := fun h => hc h.2
        rw [if_neg c1, if_neg c2]
        by_cases h2 : b.toNat = j
        · rw [h2, if_neg hc]
        · split
          · rw [getD_set, if_neg h2]
          · rfl
  unfold outL
  rw [key x _ hx (by rw [List.length_replicate]; exact hl), getD_rep]
  by_cases hc : many < 2 * (ye.getD j 0 + go.getD j 0)
  · rw [if_pos ⟨hj, hc⟩, if_pos hc]
  · rw [if_neg (fun h => hc h.2), if_neg hc]
theorem inc_at (l : List Int) {j : Nat} : ∀ (x y : List Int), (∀ z ∈ x, 0 ≤ z) → x.Nodup → j < y.length → (incL l y x).getD j 0 = y.getD j 0 + if (j : Int) ∈ x then l.getD j 0 else 0 := by
  intro x
  unfold incL
  induction x with
  | nil => intro y _ _ _; simp
  | cons b r ih =>
    intro y h hd hy
    have hb := h b (.head _)
    obtain ⟨hb1, hd⟩ := List.nodup_cons.1 hd
    rw [List.foldl_cons, ih _ (fun z hz => h z (.tail _ hz)) hd (by rw [List.length_set]; exact hy), getD_set]
    by_cases h2 : b.toNat = j
    · have hj : (j : Int) = b := by omega
      rw [if_pos h2, if_pos hy, hj, if_neg hb1, if_pos (.head _), h2]
      omega
    · rw [if_neg h2]
      have : ((j : Int) ∈ b :: r) ↔ (j : Int) ∈ r := ⟨fun h => by
        rcases List.mem_cons.1 h with h | h
        · omega
        · exact h, .tail _⟩
      simp only [this]
theorem bits_nodup (s : Int) : (bitsOf s).Nodup := by
  unfold bitsOf bitsN
  exact List.Pairwise.map _ (fun a b h => by omega) (List.Pairwise.filter _ List.nodup_range')
theorem bits_nn (s : Int) : ∀ y ∈ bitsOf s, 0 ≤ y := by
  intro y hy
  obtain ⟨i, _, rfl⟩ := List.mem_map.1 hy
  omega
theorem yes_at {n : Int} (r : Nat) (l : Int → List Int) {i : Nat} (hi : i < n.toNat) (x : List Int) : (yesL n r l x).getD i 0 = (x.map fun j => if (i : Int) ∈ bitsOf (woN r j : Int) then (l j).getD i 0 else 0).sum := by
  have key : ∀ (x y : List Int), i < y.length → (x.foldl (fun y j => incL (l j) y (bitsOf (woN r j : Int))) y).getD i 0 = y.getD i 0 + (x.map fun j => if (i : Int) ∈ bitsOf (woN r j : Int) then (l j).getD i 0 else 0).sum := by
    intro x
    induction x with
    | nil => intro y _; simp
    | cons b s ih =>
      intro y hy
      rw [List.foldl_cons, ih _ (by rw [inc_len]; exact hy), inc_at _ _ _ (bits_nn _) (bits_nodup _) hy, List.map_cons, List.sum_cons]
      omega
  unfold yesL
  rw [key x _ (by rw [List.length_replicate]; exact hi), getD_rep]
  omega

/-- what 'i' holds of 'j's word, where the last one on a path has the word 'o' -/
def T (a : Ar) (d : Nat) (p : List Int) (o : Int) (j i : Nat) : Int := if j = i then sendsF a p i o else (askF a d (p ++ [(j : Int)]) (sendsF a p j o)).getD i 0
theorem wo_bit (r : Nat) (j : Int) (i : Nat) : (woN r j).testBit i = (r.testBit i && !decide (j.toNat = i)) := by
  unfold woN
  rw [Nat.testBit_xor, Nat.testBit_and, Nat.testBit_two_pow]
  cases r.testBit i <;> cases decide (j.toNat = i) <;> rfl
theorem wo_lt {r : Nat} (hr : r < 128) (j : Int) : woN r j < 128 := Nat.xor_lt_two_pow (n := 7) hr (Nat.lt_of_le_of_lt Nat.and_le_left hr)
theorem mem_bits {r : Nat} (hr : r < 128) (i : Nat) : (i : Int) ∈ bitsOf (r : Int) ↔ r.testBit i = true := by
  rw [bitsOf_mem (by omega)]
  constructor
  · rintro ⟨j, e, h⟩
    have : i = j := by omega
    rw [this]; exact h
  · exact fun h => ⟨i, rfl, h⟩
theorem rest_lt {n : Int} {p : List Int} {i : Nat} (h : (restN n p).testBit i = true) : i < n.toNat := by
  rw [restN_bit] at h
  simp only [Bool.and_eq_true, decide_eq_true_eq] at h
  exact h.1
theorem ask_zero {a : Ar} (h : ArOk a) (p : List Int) (o : Int) {i : Nat} (hi : (restN a.1 p).testBit i = true) : (askF a 0 p o).getD i 0 = sendsF a p i o :=
  got_at a p o (bits_nn _) ((mem_bits (rest_lt64 h.n7 p) i).2 hi) (rest_lt hi)
theorem ask_at {a : Ar} (h : ArOk a) (d : Nat) (p : List Int) (o : Int) {i : Nat} (hi : (restN a.1 p).testBit i = true) :
    (askF a (d + 1) p o).getD i 0 = if (popN (restN a.1 p) : Int) < 2 * S 64 (fun j => if (restN a.1 p).testBit j = true then T a d p o j i else 0) then 1 else 0 := by
  have hr := rest_lt64 h.n7 p
  have hl := rest_lt hi
  have hm := (mem_bits hr i).2 hi
  show (outL _ _ _ _ _).getD i 0 = _
  rw [out_at _ _ _ _ (bits_nn _) hm hl, got_at a p o (bits_nn _) hm hl, yes_at _ _ hl, bits_sum _ hr]
  have e : S 64 (fun j => if (restN a.1 p).testBit j = true then T a d p o j i else 0) =
      S 64 (fun j => if (restN a.1 p).testBit j = true then (if (i : Int) ∈ bitsOf (woN (restN a.1 p) j : Int) then (askF a d (p ++ [(j : Int)]) ((gotL a p o (bitsOf (restN a.1 p : Int))).getD (j : Int).toNat 0)).getD i 0 else 0) else 0) + sendsF a p i o := by
    have hi64 : i < 64 := by have := h.n7; omega
    rw [S_split 64 hi64, if_pos hi]
    have t : T a d p o i i = sendsF a p i o := by unfold T; rw [if_pos rfl]
    rw [t]
    congr 1
    refine S_congr 64 fun j hj => ?_
    by_cases hb : (restN a.1 p).testBit j = true
    · rw [if_pos hb, if_pos hb]
      by_cases hji : j = i
      · subst hji
        rw [if_pos rfl, if_neg fun hc => by
          rw [mem_bits (wo_lt hr _), wo_bit] at hc
          simp at hc]
      · rw [if_neg hji, if_pos ((mem_bits (wo_lt hr _) i).2 (by rw [wo_bit, hi]; simpa using hji))]
        unfold T
        rw [if_neg hji, Int.toNat_natCast, got_at a p o (bits_nn _) ((mem_bits hr j).2 hb) (rest_lt hb)]
    · rw [if_neg hb, if_neg hb]; split <;> rfl
  rw [e]
theorem rest_snoc {n : Int} {p : List Int} {j : Nat} : restN n (p ++ [(j : Int)]) = woN (restN n p) j := by
  apply Nat.eq_of_testBit_eq
  intro i
  rw [wo_bit, restN_bit, restN_bit, onN_snoc, Nat.testBit_or, Nat.testBit_two_pow, Int.toNat_natCast]
  cases decide (i < n.toNat) <;> cases (onN p).testBit i <;> cases decide (j = i) <;> rfl
theorem last_snoc (p : List Int) (y : Int) : lastOf (p ++ [y]) = y := by
  unfold lastOf
  rw [List.getD_eq_getElem?_getD]; simp

/-! counts -/
abbrev Li (a : Ar) (j : Nat) : Prop := bitB a.2.1 (j : Int) = true
/-- how many of them lie -/
def tR (a : Ar) (r : Nat) : Int := S 64 fun j => if r.testBit j = true ∧ Li a j then 1 else 0
theorem pop_wo {r j : Nat} (hr : r < 128) (hj : r.testBit j = true) : (popN (woN r j) : Int) = popN r - 1 := by
  have hj7 : j < 64 := by
    rcases Nat.lt_or_ge j 64 with h | h
    · exact h
    · rw [Nat.testBit_lt_two_pow (Nat.lt_of_lt_of_le (show r < 2 ^ 7 by omega) (Nat.pow_le_pow_right (by decide) (by omega)))] at hj; cases hj
  rw [pop_sum (wo_lt hr _), pop_sum hr, S_split (f := fun i => if r.testBit i = true then 1 else 0) 64 hj7, if_pos hj]
  have : S 64 (fun i => if (woN r j).testBit i = true then (1 : Int) else 0) = S 64 (fun i => if i = j then 0 else if r.testBit i = true then 1 else 0) := S_congr 64 fun i hi => by
    rw [wo_bit, Int.toNat_natCast]
    by_cases h : i = j
    · subst h; simp
    · have : ¬ j = i := fun e => h e.symm
      simp [h, this]
  omega
theorem t_wo (a : Ar) {r j : Nat} (hr : r < 128) (hj : r.testBit j = true) : tR a (woN r j) = tR a r - if Li a j then 1 else 0 := by
  have hj7 : j < 64 := by
    rcases Nat.lt_or_ge j 64 with h | h
    · exact h
    · rw [Nat.testBit_lt_two_pow (Nat.lt_of_lt_of_le (show r < 2 ^ 7 by omega) (Nat.pow_le_pow_right (by decide) (by omega)))] at hj; cases hj
  unfold tR
  rw [S_split (f := fun i => if r.testBit i = true ∧ Li a i then 1 else 0) 64 hj7]
  have : S 64 (fun i => if (woN r j).testBit i = true ∧ Li a i then (1 : Int) else 0) = S 64 (fun i => if i = j then 0 else if r.testBit i = true ∧ Li a i then 1 else 0) := S_congr 64 fun i hi => by
    rw [wo_bit, Int.toNat_natCast]
    by_cases h : i = j
    · subst h; simp
    · have : ¬ j = i := fun e => h e.symm
      simp [h, this]
  rw [this]
  have e : (if r.testBit j = true ∧ Li a j then (1 : Int) else 0) = if Li a j then 1 else 0 := by
    by_cases h : Li a j
    · rw [if_pos ⟨hj, h⟩, if_pos h]
    · rw [if_neg fun x => h x.2, if_neg h]
  rw [e]; omega
theorem t_nn (a : Ar) (r : Nat) : 0 ≤ tR a r := by
  have := S_mono (f := fun _ => 0) (g := fun j => if r.testBit j = true ∧ Li a j then (1 : Int) else 0) 64 fun j _ => by split <;> decide
  rw [S_zero] at this
  exact this
theorem t_pos {a : Ar} {r j : Nat} (hr : r < 128) (hj : r.testBit j = true) (hl : Li a j) : 1 ≤ tR a r := by
  have h1 := t_wo a hr hj
  have h2 := t_nn a (woN r j)
  rw [if_pos hl] at h1
  omega
theorem T_bd {a : Ar} (h : ArOk a) (d : Nat) (p : List Int) {o : Int} (ho : 0 ≤ o ∧ o ≤ 1) (j i : Nat) : 0 ≤ T a d p o j i ∧ T a d p o j i ≤ 1 := by
  unfold T
  split
  · exact sends_bd h ho
  · exact ask_bd h d _ (sends_bd h ho) i
theorem sends_honest {a : Ar} {p : List Int} (hl : ¬ bitB a.2.1 (lastOf p) = true) (i o : Int) : sendsF a p i o = o := by
  unfold sendsF; rw [if_neg hl]

/-- the words that are counted, where the honest ones' are the same -/
theorem maj {a : Ar} {r : Nat} {f : Nat → Int} {o : Int} (hr : r < 128) (ho : 0 ≤ o ∧ o ≤ 1) (hf : ∀ j, r.testBit j = true → 0 ≤ f j ∧ f j ≤ 1) (hh : ∀ j, r.testBit j = true → ¬ Li a j → f j = o)
    (hc : 2 * tR a r < popN r) : (if (popN r : Int) < 2 * S 64 (fun j => if r.testBit j = true then f j else 0) then (1 : Int) else 0) = o := by
  rcases (show o = 0 ∨ o = 1 by omega) with rfl | rfl
  · rw [if_neg]
    have : S 64 (fun j => if r.testBit j = true then f j else 0) ≤ tR a r := S_mono 64 fun j _ => by
      by_cases hb : r.testBit j = true
      · by_cases hl : Li a j
        · rw [if_pos hb, if_pos ⟨hb, hl⟩]; exact (hf j hb).2
        · rw [if_pos hb, if_neg fun x => hl x.2, hh j hb hl]; exact Int.le_refl _
      · rw [if_neg hb, if_neg fun x => hb x.1]; exact Int.le_refl _
    omega
  · rw [if_pos]
    have h1 : S 64 (fun j => if r.testBit j = true then (1 : Int) else 0) ≤ S 64 (fun j => (if r.testBit j = true then f j else 0) + if r.testBit j = true ∧ Li a j then 1 else 0) := S_mono 64 fun j _ => by
      by_cases hb : r.testBit j = true
      · rw [if_pos hb, if_pos hb]
        by_cases hl : Li a j
        · rw [if_pos ⟨hb, hl⟩]; have := (hf j hb).1; omega
        · rw [if_neg fun x => hl x.2, hh j hb hl]; decide
      · rw [if_neg hb, if_neg hb, if_neg fun x => hb x.1]; decide
    rw [S_add, ← pop_sum hr] at h1
    have : tR a r = S 64 (fun j => if r.testBit j = true ∧ Li a j then (1 : Int) else 0) := rfl
    omega

/-- AN HONEST ONE'S WORD GETS THROUGH. -/
theorem valid {a : Ar} (h : ArOk a) : ∀ (d : Nat) (p : List Int) (o : Int), 0 ≤ o ∧ o ≤ 1 → ¬ bitB a.2.1 (lastOf p) = true → (tR a (restN a.1 p) = 0 ∨ 2 * tR a (restN a.1 p) + d ≤ popN (restN a.1 p)) →
    ∀ i, (restN a.1 p).testBit i = true → ¬ Li a i → (askF a d p o).getD i 0 = o := by
  intro d
  induction d with
  | zero =>
    intro p o ho hp _ i hi _
    rw [ask_zero h p o hi]
    exact sends_honest hp _ _
  | succ d ih =>
    intro p o ho hp hc i hi hli
    have hr := rest_lt64 h.n7 p
    rw [ask_at h d p o hi]
    have h1 : (1 : Int) ≤ popN (restN a.1 p) := by
      have := pop_wo hr hi
      omega
    refine maj (a := a) hr ho (fun j hj => T_bd h d p ho j i) (fun j hj hlj => ?_) (by rcases hc with hc | hc <;> omega)
    unfold T
    by_cases hji : j = i
    · rw [if_pos hji]; exact sends_honest hp _ _
    · rw [if_neg hji, sends_honest hp]
      have e1 := pop_wo hr hj
      have e2 := t_wo a hr hj
      rw [if_neg hlj] at e2
      refine ih (p ++ [(j : Int)]) o ho (by rw [last_snoc]; exact hlj) ?_ i ?_ hli
      · rw [rest_snoc, e1, e2]
        rcases hc with hc | hc
        · left; omega
        · right; omega
      · rw [rest_snoc, wo_bit, hi]; simpa using hji

/-- THE HONEST AGREE. -/
theorem agree {a : Ar} (h : ArOk a) : ∀ (d : Nat) (p : List Int) (o : Int), 0 ≤ o ∧ o ≤ 1 → tR a (restN a.1 p) + (if bitB a.2.1 (lastOf p) = true then 1 else 0) ≤ d → 3 * (d : Int) ≤ popN (restN a.1 p) →
    ∀ i i', (restN a.1 p).testBit i = true → (restN a.1 p).testBit i' = true → ¬ Li a i → ¬ Li a i' → (askF a d p o).getD i 0 = (askF a d p o).getD i' 0 := by
  intro d
  induction d with
  | zero =>
    intro p o ho ht hc i i' hi hi' hli hli'
    have := t_nn a (restN a.1 p)
    by_cases hp : bitB a.2.1 (lastOf p) = true
    · rw [if_pos hp] at ht; omega
    · rw [if_neg hp] at ht
      rw [valid h 0 p o ho hp (.inl (by omega)) i hi hli, valid h 0 p o ho hp (.inl (by omega)) i' hi' hli']
  | succ d ih =>
    intro p o ho ht hc i i' hi hi' hli hli'
    have hr := rest_lt64 h.n7 p
    have hn := t_nn a (restN a.1 p)
    by_cases hp : bitB a.2.1 (lastOf p) = true
    · rw [if_pos hp] at ht
      rw [ask_at h d p o hi, ask_at h d p o hi']
      have e : S 64 (fun j => if (restN a.1 p).testBit j = true then T a d p o j i else 0) = S 64 (fun j => if (restN a.1 p).testBit j = true then T a d p o j i' else 0) := S_congr 64 fun j _ => by
        by_cases hj : (restN a.1 p).testBit j = true
        · rw [if_pos hj, if_pos hj]
          have so := sends_bd h (p := p) (i := (j : Int)) ho
          have e1 := pop_wo hr hj
          have e2 := t_wo a hr hj
          have bit : ∀ k, (restN a.1 p).testBit k = true → ¬ j = k → (restN a.1 (p ++ [(j : Int)])).testBit k = true := fun k hk hne => by
            rw [rest_snoc, wo_bit, hk]; simpa using hne
          have va : ¬ Li a j → ∀ k, (restN a.1 p).testBit k = true → ¬ j = k → ¬ Li a k → (askF a d (p ++ [(j : Int)]) (sendsF a p j o)).getD k 0 = sendsF a p j o := fun hlj k hk hne hlk => by
            rw [if_neg hlj] at e2
            refine valid h d _ _ so (by rw [last_snoc]; exact hlj) (.inr ?_) k (bit k hk hne) hlk
            rw [rest_snoc, e1, e2]; omega
          unfold T
          by_cases h1 : j = i
          · subst h1
            rw [if_pos rfl]
            by_cases h2 : j = i'
            · rw [if_pos h2, h2]
            · rw [if_neg h2, va hli i' hi' h2 hli']
          · rw [if_neg h1]
            by_cases h2 : j = i'
            · subst h2
              rw [if_pos rfl, va hli' i hi h1 hli]
            · rw [if_neg h2]
              refine ih (p ++ [(j : Int)]) _ so ?_ ?_ i i' (bit i hi h1) (bit i' hi' h2) hli hli'
              · rw [rest_snoc, e2, last_snoc]
                by_cases hlj : Li a j
                · rw [if_pos hlj]; omega
                · rw [if_neg hlj]; omega
              · rw [rest_snoc, e1]; omega
        · rw [if_neg hj, if_neg hj]
      rw [e]
    · rw [if_neg hp] at ht
      have hv := valid h (d + 1) p o ho hp (.inr (by omega))
      rw [hv i hi hli, hv i' hi' hli']
end Go.Proofs.YtlopkkoenfngiaaDoor

/- Generals: the laws. -/
namespace Go.Proofs.YtlopkkoenfngiaaDoor
open Go.Vc
def cGFact : Ctr := cdet [] True [⟨.bool, true⟩]
def cLawG : Ctr := cdet [I, I, I, I, .sl I] (fun _ _ _ _ _ => True) (fun _ _ _ _ _ => [⟨.bool, true⟩])
def cLawH : Ctr := cdet [I, I, I, .sl I] (fun _ _ _ _ => True) (fun _ _ _ _ => [⟨.bool, true⟩])
structure InAg (n deep liars order : Int) (lies : List Int) (i : Nat) (f : Int) : Prop where
  ge : gErr n deep liars order lies = 0
  le : 1 ≤ i ∧ (i : Int) ≤ n
  many : (popN liars.toNat : Int) ≤ deep
  three : 3 * deep < n
  first : (f = -1 ∧ ∀ j, 1 ≤ j → j < i → bitB liars (j : Int) = true) ∨ ∃ j, 1 ≤ j ∧ j < i ∧ bitB liars (j : Int) = false ∧ f = (decF n deep liars order lies).getD j 0
def anAgree (n deep liars order : Int) (lies : List Int) : Ann :=
  [joinAll, loopAt 13 (Nat × Int) [] (fun st x => St.at (St.only st [0, 1, 2, 3, 4, 12]) [(14, .d I x.2), (15, .d I (x.1 : Int))]) (fun _ x => InAg n deep liars order lies x.1 x.2) (fun x => n.toNat - x.1)]
structure InOb (n deep liars order : Int) (lies : List Int) (i : Nat) : Prop where
  ge : gErr n deep liars order lies = 0
  le : 1 ≤ i ∧ (i : Int) ≤ n
  z : bitB liars 0 = false
  many : 2 * (popN liars.toNat : Int) + deep < n
def anObey (n deep liars order : Int) (lies : List Int) : Ann :=
  [joinAll, loopAt 12 Nat [] (fun st i => St.at (St.only st [0, 1, 2, 3, 4, 12]) [(14, .d I (i : Int))]) (fun _ i => InOb n deep liars order lies i) (fun i => n.toNat - i)]
structure InHo (n deep order : Int) (lies : List Int) (i : Nat) : Prop where
  ge : gErr n deep 0 order lies = 0
  le : (i : Int) ≤ n
def anHonest (n deep order : Int) (lies : List Int) : Ann :=
  [joinAll, loopAt 8 Nat [] (fun st i => St.at (St.only st [0, 1, 2, 3, 10]) [(12, .d I (i : Int))]) (fun _ i => InHo n deep order lies i) (fun i => n.toNat - i)]
end Go.Proofs.YtlopkkoenfngiaaDoor

/- What the functions of this seat have to satisfy, by program: each verification condition in plain words. -/
namespace Go.Proofs.YtlopkkoenfngiaaDoor
open Go.Vc
set_option linter.unusedVariables false
theorem vcGFact (k : List Dat → Prop) : vcF ⟨En, [(34, cDecide)], glT, [], []⟩ [joinAll] (Tryd.f33.body.getD .skip) Tryd.f33.ntmps [(.tmp 0, .bool)] [] k = (
  True ∧ True ∧ (decide (gErr (3 : Int) (1 : Int) (4 : Int) (1 : Int) ((List.replicate (1 : Nat) (0 : Int)).set (0 : Nat) (0 : Int)) = (0 : Int)) = true → (decide (gErr (4 : Int) (1 : Int) (8 : Int) (1 : Int) ((List.replicate (1 : Nat) (0 : Int)).set (0 : Nat) (0 : Int)) = (0 : Int)) = true → (decide ((↑(decF (3 : Int) (1 : Int) (4 : Int) (1 : Int) ((List.replicate (1 : Nat) (0 : Int)).set (0 : Nat) (0 : Int))).length : Int) = (3 : Int)) = true → (0 : Int) ≤ (1 : Int) ∧ (1 : Int) < (↑(decF (3 : Int) (1 : Int) (4 : Int) (1 : Int) ((List.replicate (1 : Nat) (0 : Int)).set (0 : Nat) (0 : Int))).length : Int) ∧ (decide ((decF (3 : Int) (1 : Int) (4 : Int) (1 : Int) ((List.replicate (1 : Nat) (0 : Int)).set (0 : Nat) (0 : Int))).getD (Int.toNat (1 : Int)) (0 : Int) = (0 : Int)) = true → (decide ((↑(decF (4 : Int) (1 : Int) (8 : Int) (1 : Int) ((List.replicate (1 : Nat) (0 : Int)).set (0 : Nat) (0 : Int))).length : Int) = (4 : Int)) = true → (0 : Int) ≤ (1 : Int) ∧ (1 : Int) < (↑(decF (4 : Int) (1 : Int) (8 : Int) (1 : Int) ((List.replicate (1 : Nat) (0 : Int)).set (0 : Nat) (0 : Int))).length : Int) ∧ (decide ((decF (4 : Int) (1 : Int) (8 : Int) (1 : Int) ((List.replicate (1 : Nat) (0 : Int)).set (0 : Nat) (0 : Int))).getD (Int.toNat (1 : Int)) (0 : Int) = (1 : Int)) = true → (0 : Int) ≤ (2 : Int) ∧ (2 : Int) < (↑(decF (4 : Int) (1 : Int) (8 : Int) (1 : Int) ((List.replicate (1 : Nat) (0 : Int)).set (0 : Nat) (0 : Int))).length : Int) ∧ k [Dat.mk Ty.bool (decide ((decF (4 : Int) (1 : Int) (8 : Int) (1 : Int) ((List.replicate (1 : Nat) (0 : Int)).set (0 : Nat) (0 : Int))).getD (Int.toNat (2 : Int)) (0 : Int) = (1 : Int)))]) ∧ (decide ((decF (4 : Int) (1 : Int) (8 : Int) (1 : Int) ((List.replicate (1 : Nat) (0 : Int)).set (0 : Nat) (0 : Int))).getD (Int.toNat (1 : Int)) (0 : Int) = (1 : Int)) = false → k [Dat.mk Ty.bool false])) ∧ (decide ((↑(decF (4 : Int) (1 : Int) (8 : Int) (1 : Int) ((List.replicate (1 : Nat) (0 : Int)).set (0 : Nat) (0 : Int))).length : Int) = (4 : Int)) = false → k [Dat.mk Ty.bool false])) ∧ (decide ((decF (3 : Int) (1 : Int) (4 : Int) (1 : Int) ((List.replicate (1 : Nat) (0 : Int)).set (0 : Nat) (0 : Int))).getD (Int.toNat (1 : Int)) (0 : Int) = (0 : Int)) = false → k [Dat.mk Ty.bool false])) ∧ (decide ((↑(decF (3 : Int) (1 : Int) (4 : Int) (1 : Int) ((List.replicate (1 : Nat) (0 : Int)).set (0 : Nat) (0 : Int))).length : Int) = (3 : Int)) = false → k [Dat.mk Ty.bool false])) ∧ (decide (gErr (4 : Int) (1 : Int) (8 : Int) (1 : Int) ((List.replicate (1 : Nat) (0 : Int)).set (0 : Nat) (0 : Int)) = (0 : Int)) = false → k [Dat.mk Ty.bool false])) ∧ (decide (gErr (3 : Int) (1 : Int) (4 : Int) (1 : Int) ((List.replicate (1 : Nat) (0 : Int)).set (0 : Nat) (0 : Int)) = (0 : Int)) = false → k [Dat.mk Ty.bool false])) := by kernel_rfl
theorem vcAgree (n deep liars order : Int) (lies : List Int) (k : List Dat → Prop) : vcF ⟨En, [(33, cGFact), (34, cDecide), (23, cManyR), (35, cBit)], glT, [], []⟩ (anAgree n deep liars order lies) (Tryd.f8.body.getD .skip) Tryd.f8.ntmps [(.tmp 10, .bool)] [⟨I, n⟩, ⟨I, deep⟩, ⟨I, liars⟩, ⟨I, order⟩, ⟨.sl I, lies⟩] k = (
  True ∧ ((!true) = true → k [Dat.mk Ty.bool false]) ∧ ((!true) = false → True ∧ ((!decide (gErr n deep liars order lies = (0 : Int))) = true → k [Dat.mk Ty.bool (decide ((↑(decF n deep liars order lies).length : Int) = (0 : Int)))]) ∧ ((!decide (gErr n deep liars order lies = (0 : Int))) = false → ((!decide ((↑(decF n deep liars order lies).length : Int) = n)) = true → k [Dat.mk Ty.bool false]) ∧ ((!decide ((↑(decF n deep liars order lies).length : Int) = n)) = false → (liars < (256 : Int) ∧ True) ∧ (decide (deep < (↑(popN liars.toNat) : Int)) = true → k [Dat.mk Ty.bool true]) ∧ (decide (deep < (↑(popN liars.toNat) : Int)) = false → inK IntKind.i64 ((3 : Int) * deep) ∧ (decide (n ≤ (3 : Int) * deep) = true → k [Dat.mk Ty.bool true]) ∧ (decide (n ≤ (3 : Int) * deep) = false → (∃ (x : Nat × Int), InAg n deep liars order lies x.fst x.snd ∧ (n = n ∧ deep = deep ∧ liars = liars ∧ order = order ∧ lies = lies ∧ decF n deep liars order lies = decF n deep liars order lies ∧ (-1 : Int) = x.snd ∧ (1 : Int) = (↑x.fst : Int) ∧ True) ∧ True ∧ tabD = tabD ∧ True) ∧ ∀ (x : Nat × Int), InAg n deep liars order lies x.fst x.snd → (decide ((↑x.fst : Int) < n) = true → True ∧ (bitB liars (↑x.fst : Int) = true → inK IntKind.i64 ((↑x.fst : Int) + (1 : Int)) ∧ ∃ (x_1 : Nat × Int), InAg n deep liars order lies x_1.fst x_1.snd ∧ n.toNat - x_1.fst < n.toNat - x.fst ∧ (n = n ∧ deep = deep ∧ liars = liars ∧ order = order ∧ lies = lies ∧ decF n deep liars order lies = decF n deep liars order lies ∧ x.snd = x_1.snd ∧ (↑x.fst : Int) + (1 : Int) = (↑x_1.fst : Int) ∧ True) ∧ True ∧ tabD = tabD ∧ True) ∧ (bitB liars (↑x.fst : Int) = false → (decide (x.snd < (0 : Int)) = true → (0 : Int) ≤ (↑x.fst : Int) ∧ (↑x.fst : Int) < (↑(decF n deep liars order lies).length : Int) ∧ (0 : Int) ≤ (↑x.fst : Int) ∧ (↑x.fst : Int) < (↑(decF n deep liars order lies).length : Int) ∧ ((!decide ((decF n deep liars order lies).getD (↑x.fst : Int).toNat (0 : Int) = (decF n deep liars order lies).getD (↑x.fst : Int).toNat (0 : Int))) = true → k [Dat.mk Ty.bool false]) ∧ ((!decide ((decF n deep liars order lies).getD (↑x.fst : Int).toNat (0 : Int) = (decF n deep liars order lies).getD (↑x.fst : Int).toNat (0 : Int))) = false → inK IntKind.i64 ((↑x.fst : Int) + (1 : Int)) ∧ ∃ (x_1 : Nat × Int), InAg n deep liars order lies x_1.fst x_1.snd ∧ n.toNat - x_1.fst < n.toNat - x.fst ∧ (n = n ∧ deep = deep ∧ liars = liars ∧ order = order ∧ lies = lies ∧ decF n deep liars order lies = decF n deep liars order lies ∧ (decF n deep liars order lies).getD (↑x.fst : Int).toNat (0 : Int) = x_1.snd ∧ (↑x.fst : Int) + (1 : Int) = (↑x_1.fst : Int) ∧ True) ∧ True ∧ tabD = tabD ∧ True)) ∧ (decide (x.snd < (0 : Int)) = false → (0 : Int) ≤ (↑x.fst : Int) ∧ (↑x.fst : Int) < (↑(decF n deep liars order lies).length : Int) ∧ ((!decide ((decF n deep liars order lies).getD (↑x.fst : Int).toNat (0 : Int) = x.snd)) = true → k [Dat.mk Ty.bool false]) ∧ ((!decide ((decF n deep liars order lies).getD (↑x.fst : Int).toNat (0 : Int) = x.snd)) = false → inK IntKind.i64 ((↑x.fst : Int) + (1 : Int)) ∧ ∃ (x_1 : Nat × Int), InAg n deep liars order lies x_1.fst x_1.snd ∧ n.toNat - x_1.fst < n.toNat - x.fst ∧ (n = n ∧ deep = deep ∧ liars = liars ∧ order = order ∧ lies = lies ∧ decF n deep liars order lies = decF n deep liars order lies ∧ x.snd = x_1.snd ∧ (↑x.fst : Int) + (1 : Int) = (↑x_1.fst : Int) ∧ True) ∧ True ∧ tabD = tabD ∧ True)))) ∧ (decide ((↑x.fst : Int) < n) = false → k [Dat.mk Ty.bool true]))))))) := by kernel_rfl
theorem vcObey (n deep liars order : Int) (lies : List Int) (k : List Dat → Prop) : vcF ⟨En, [(33, cGFact), (34, cDecide), (23, cManyR), (35, cBit)], glT, [], []⟩ (anObey n deep liars order lies) (Tryd.f9.body.getD .skip) Tryd.f9.ntmps [(.tmp 10, .bool)] [⟨I, n⟩, ⟨I, deep⟩, ⟨I, liars⟩, ⟨I, order⟩, ⟨.sl I, lies⟩] k = (
  True ∧ ((!true) = true → k [Dat.mk Ty.bool false]) ∧ ((!true) = false → True ∧ ((!decide (gErr n deep liars order lies = (0 : Int))) = true → k [Dat.mk Ty.bool (decide ((↑(decF n deep liars order lies).length : Int) = (0 : Int)))]) ∧ ((!decide (gErr n deep liars order lies = (0 : Int))) = false → ((!decide ((↑(decF n deep liars order lies).length : Int) = n)) = true → k [Dat.mk Ty.bool false]) ∧ ((!decide ((↑(decF n deep liars order lies).length : Int) = n)) = false → (0 : Int) ≤ (0 : Int) ∧ (0 : Int) < (↑(decF n deep liars order lies).length : Int) ∧ ((!decide ((decF n deep liars order lies).getD (Int.toNat (0 : Int)) (0 : Int) = order)) = true → k [Dat.mk Ty.bool false]) ∧ ((!decide ((decF n deep liars order lies).getD (Int.toNat (0 : Int)) (0 : Int) = order)) = false → True ∧ (bitB liars (0 : Int) = true → k [Dat.mk Ty.bool true]) ∧ (bitB liars (0 : Int) = false → (liars < (256 : Int) ∧ True) ∧ inK IntKind.i64 ((2 : Int) * (↑(popN liars.toNat) : Int)) ∧ inK IntKind.i64 ((2 : Int) * (↑(popN liars.toNat) : Int) + deep) ∧ (decide (n ≤ (2 : Int) * (↑(popN liars.toNat) : Int) + deep) = true → k [Dat.mk Ty.bool true]) ∧ (decide (n ≤ (2 : Int) * (↑(popN liars.toNat) : Int) + deep) = false → (∃ (x : Nat), InOb n deep liars order lies x ∧ (n = n ∧ deep = deep ∧ liars = liars ∧ order = order ∧ lies = lies ∧ decF n deep liars order lies = decF n deep liars order lies ∧ (1 : Int) = (↑x : Int) ∧ True) ∧ True ∧ tabD = tabD ∧ True) ∧ ∀ (x : Nat), InOb n deep liars order lies x → (decide ((↑x : Int) < n) = true → True ∧ ((!bitB liars (↑x : Int)) = true → (0 : Int) ≤ (↑x : Int) ∧ (↑x : Int) < (↑(decF n deep liars order lies).length : Int) ∧ ((!decide ((decF n deep liars order lies).getD (↑x : Int).toNat (0 : Int) = order)) = true → k [Dat.mk Ty.bool false]) ∧ ((!decide ((decF n deep liars order lies).getD (↑x : Int).toNat (0 : Int) = order)) = false → inK IntKind.i64 ((↑x : Int) + (1 : Int)) ∧ ∃ (x_1 : Nat), InOb n deep liars order lies x_1 ∧ n.toNat - x_1 < n.toNat - x ∧ (n = n ∧ deep = deep ∧ liars = liars ∧ order = order ∧ lies = lies ∧ decF n deep liars order lies = decF n deep liars order lies ∧ (↑x : Int) + (1 : Int) = (↑x_1 : Int) ∧ True) ∧ True ∧ tabD = tabD ∧ True)) ∧ ((!bitB liars (↑x : Int)) = false → inK IntKind.i64 ((↑x : Int) + (1 : Int)) ∧ ∃ (x_1 : Nat), InOb n deep liars order lies x_1 ∧ n.toNat - x_1 < n.toNat - x ∧ (n = n ∧ deep = deep ∧ liars = liars ∧ order = order ∧ lies = lies ∧ decF n deep liars order lies = decF n deep liars order lies ∧ (↑x : Int) + (1 : Int) = (↑x_1 : Int) ∧ True) ∧ True ∧ tabD = tabD ∧ True)) ∧ (decide ((↑x : Int) < n) = false → k [Dat.mk Ty.bool true])))))))) := by kernel_rfl
theorem vcHonest (n deep order : Int) (lies : List Int) (k : List Dat → Prop) : vcF ⟨En, [(33, cGFact), (34, cDecide)], glT, [], []⟩ (anHonest n deep order lies) (Tryd.f10.body.getD .skip) Tryd.f10.ntmps [(.tmp 8, .bool)] [⟨I, n⟩, ⟨I, deep⟩, ⟨I, order⟩, ⟨.sl I, lies⟩] k = (
  True ∧ ((!true) = true → k [Dat.mk Ty.bool false]) ∧ ((!true) = false → True ∧ ((!decide (gErr n deep (0 : Int) order lies = (0 : Int))) = true → k [Dat.mk Ty.bool (decide ((↑(decF n deep (0 : Int) order lies).length : Int) = (0 : Int)))]) ∧ ((!decide (gErr n deep (0 : Int) order lies = (0 : Int))) = false → (∃ (x : Nat), InHo n deep order lies x ∧ (n = n ∧ deep = deep ∧ order = order ∧ lies = lies ∧ decF n deep (0 : Int) order lies = decF n deep (0 : Int) order lies ∧ (0 : Int) = (↑x : Int) ∧ True) ∧ True ∧ tabD = tabD ∧ True) ∧ ∀ (x : Nat), InHo n deep order lies x → (decide ((↑x : Int) < (↑(decF n deep (0 : Int) order lies).length : Int)) = true → (0 : Int) ≤ (↑x : Int) ∧ (↑x : Int) < (↑(decF n deep (0 : Int) order lies).length : Int) ∧ ((!decide ((decF n deep (0 : Int) order lies).getD (↑x : Int).toNat (0 : Int) = order)) = true → k [Dat.mk Ty.bool false]) ∧ ((!decide ((decF n deep (0 : Int) order lies).getD (↑x : Int).toNat (0 : Int) = order)) = false → inK IntKind.i64 ((↑x : Int) + (1 : Int)) ∧ ∃ (x_1 : Nat), InHo n deep order lies x_1 ∧ n.toNat - x_1 < n.toNat - x ∧ (n = n ∧ deep = deep ∧ order = order ∧ lies = lies ∧ decF n deep (0 : Int) order lies = decF n deep (0 : Int) order lies ∧ (↑x : Int) + (1 : Int) = (↑x_1 : Int) ∧ True) ∧ True ∧ tabD = tabD ∧ True)) ∧ (decide ((↑x : Int) < (↑(decF n deep (0 : Int) order lies).length : Int)) = false → k [Dat.mk Ty.bool (decide ((↑(decF n deep (0 : Int) order lies).length : Int) = n))])))) := by kernel_rfl
end Go.Proofs.YtlopkkoenfngiaaDoor

/- Generals: the laws hold. -/
namespace Go.Proofs.YtlopkkoenfngiaaDoor
open Go.Vc
theorem lt128 {n liars : Int} (hn : n ≤ 7) (h : 0 ≤ liars ∧ liars < 2 ^ n.toNat) : liars.toNat < 128 ∧ liars < 128 := by
  have h1 : 2 ^ n.toNat ≤ 2 ^ 7 := Nat.pow_le_pow_right (by decide) (by omega)
  have h2 := h.2
  rw [powC] at h2
  omega
theorem rest0_bit (n : Int) (i : Nat) : (restN n [0]).testBit i = (decide (i < n.toNat) && !decide (i = 0)) := by
  rw [restN_bit]
  congr 1
  have h := onN_bit [0] i
  by_cases hi : i = 0
  · subst hi
    rw [h.2 ⟨0, .head _, rfl⟩]; rfl
  · cases hb : (onN [0]).testBit i with
    | false => simp [hi]
    | true =>
      obtain ⟨y, hy, e⟩ := h.1 hb
      rw [List.mem_singleton.1 hy] at e
      exact absurd e.symm hi
theorem rest0_in {n : Int} {i : Nat} (h1 : 1 ≤ i) (h : (i : Int) < n) : (restN n [0]).testBit i = true := by
  rw [rest0_bit, decide_eq_true (show i < n.toNat by omega), decide_eq_false (show ¬ i = 0 by omega)]; rfl
theorem rest0_pop {n : Int} (hn : 1 ≤ n ∧ n ≤ 7) : (popN (restN n [0]) : Int) = n - 1 := by
  have key : ∀ m : Fin 8, popN (restN ((m.val : Nat) : Int) [0]) = m.val - 1 := by decide +kernel
  have := key ⟨n.toNat, by omega⟩
  rw [show ((n.toNat : Nat) : Int) = n by omega] at this
  rw [this]
  show ((n.toNat - 1 : Nat) : Int) = n - 1
  omega
theorem top_t {n liars : Int} {lies : List Int} (hn : 1 ≤ n ∧ n ≤ 7) (h : 0 ≤ liars ∧ liars < 2 ^ n.toNat) : tR (arOf n liars lies) (restN n [0]) + (if bitB liars 0 = true then 1 else 0) = popN liars.toNat := by
  obtain ⟨h1, h2⟩ := lt128 hn.2 h
  have hb : ∀ j : Nat, bitB liars (j : Int) = liars.toNat.testBit j := fun j => by
    unfold bitB; rw [decide_eq_true h.1]; simp
  rw [pop_sum h1, S_split (j := 0) 64 (by decide)]
  have e0 : (if liars.toNat.testBit 0 = true then (1 : Int) else 0) = if bitB liars 0 = true then 1 else 0 := by
    have := hb 0
    rw [show ((0 : Nat) : Int) = 0 from rfl] at this
    rw [this]
  rw [e0]
  congr 1
  refine S_congr 64 fun j _ => ?_
  show (if (restN n [0]).testBit j = true ∧ bitB liars (j : Int) = true then (1 : Int) else 0) = _
  rw [hb, rest0_bit]
  by_cases hj : j = 0
  · subst hj; simp
  · rw [if_neg hj]
    by_cases hb' : liars.toNat.testBit j = true
    · have hlt : j < n.toNat := by
        rcases Nat.lt_or_ge j n.toNat with h' | h'
        · exact h'
        · have h3 := h.2
          rw [powC] at h3
          rw [Nat.testBit_lt_two_pow (Nat.lt_of_lt_of_le (show liars.toNat < 2 ^ n.toNat by omega) (Nat.pow_le_pow_right (by decide) h'))] at hb'; cases hb'
      simp [hj, hb', hlt]
    · simp [hb']

section
variable {n deep liars order : Int} {lies : List Int}
theorem dec_len (h : gErr n deep liars order lies = 0) : (decF n deep liars order lies).length = n.toNat := by
  unfold decF; rw [if_pos h, List.length_set, ask_len]; rfl
theorem dec_zero (h : gErr n deep liars order lies = 0) : (decF n deep liars order lies).getD 0 0 = order := by
  have := (ge_of h).hn
  unfold decF; rw [if_pos h, getD_set, if_pos rfl, ask_len, if_pos]
  show 0 < n.toNat
  omega
theorem dec_at (h : gErr n deep liars order lies = 0) {i : Nat} (hi : 1 ≤ i) : (decF n deep liars order lies).getD i 0 = (askF (arOf n liars lies) deep.toNat [0] order).getD i 0 := by
  unfold decF; rw [if_pos h, getD_set, if_neg (by omega)]
theorem dec_bd (h : gErr n deep liars order lies = 0) {i : Nat} (hi : 1 ≤ i) : 0 ≤ (decF n deep liars order lies).getD i 0 := by
  rw [dec_at h hi]
  exact (ask_bd (ge_of h).ar _ _ (ge_of h).ho i).1
theorem top_agree (h : gErr n deep liars order lies = 0) (hm : (popN liars.toNat : Int) ≤ deep) (h3 : 3 * deep < n) {i j : Nat} (hi : 1 ≤ i ∧ (i : Int) < n) (hj : 1 ≤ j ∧ (j : Int) < n)
    (hli : bitB liars (i : Int) = false) (hlj : bitB liars (j : Int) = false) : (decF n deep liars order lies).getD i 0 = (decF n deep liars order lies).getD j 0 := by
  have g := ge_of h
  have hd := g.hd
  have hn := g.hn
  have ht := top_t (lies := lies) g.hn g.hl
  have hp := rest0_pop g.hn
  rw [dec_at h hi.1, dec_at h hj.1]
  refine agree g.ar deep.toNat [0] order g.ho ?_ ?_ i j (rest0_in hi.1 hi.2) (rest0_in hj.1 hj.2) ?_ ?_
  · show tR (arOf n liars lies) (restN n [0]) + (if bitB liars 0 = true then 1 else 0) ≤ _
    rw [ht]; omega
  · show 3 * ((deep.toNat : Nat) : Int) ≤ popN (restN n [0])
    rw [hp]; omega
  · exact fun e => by have e : bitB liars (i : Int) = true := e; rw [hli] at e; cases e
  · exact fun e => by have e : bitB liars (j : Int) = true := e; rw [hlj] at e; cases e
theorem top_obey (h : gErr n deep liars order lies = 0) (hz : bitB liars 0 = false) (hm : popN liars.toNat = 0 ∨ 2 * (popN liars.toNat : Int) + deep < n) {i : Nat} (hi : 1 ≤ i ∧ (i : Int) < n)
    (hli : bitB liars (i : Int) = false) : (decF n deep liars order lies).getD i 0 = order := by
  have g := ge_of h
  have hd := g.hd
  have hn := g.hn
  have ht := top_t (lies := lies) g.hn g.hl
  have hp := rest0_pop g.hn
  rw [dec_at h hi.1]
  rw [if_neg (by rw [hz]; decide)] at ht
  refine valid g.ar deep.toNat [0] order g.ho ?_ ?_ i (rest0_in hi.1 hi.2) ?_
  · show ¬ bitB liars 0 = true
    rw [hz]; decide
  · show tR (arOf n liars lies) (restN n [0]) = 0 ∨ 2 * tR (arOf n liars lies) (restN n [0]) + ((deep.toNat : Nat) : Int) ≤ popN (restN n [0])
    rw [hp]
    rcases hm with hm | hm
    · left; omega
    · right; omega
  · exact fun e => by have e : bitB liars (i : Int) = true := e; rw [hli] at e; cases e
theorem top_honest (h : gErr n deep 0 order lies = 0) {i : Nat} (hi : (i : Int) < n) : (decF n deep 0 order lies).getD i 0 = order := by
  rcases Nat.eq_zero_or_pos i with rfl | h1
  · exact dec_zero h
  · refine top_obey h rfl (.inl (by decide)) ⟨h1, hi⟩ ?_
    unfold bitB; simp
end

theorem gfact_vc (k : List Dat → Prop) (hk : k [⟨.bool, true⟩]) : vcF ⟨En, [(34, cDecide)], glT, [], []⟩ [joinAll] (Tryd.f33.body.getD .skip) Tryd.f33.ntmps [(.tmp 0, .bool)] [] k := by
  rw [vcGFact]
  have e : decide ((decF 4 1 8 1 ((List.replicate 1 (0 : Int)).set 0 0)).getD (Int.toNat 2) 0 = 1) = true := by decide +kernel
  rw [e]
  exact ⟨trivial, trivial, fun _ => ⟨fun _ => ⟨fun _ => ⟨by decide, by decide +kernel, fun _ => ⟨fun _ => ⟨by decide, by decide +kernel, fun _ => ⟨by decide, by decide +kernel, hk⟩, fun h => absurd h (by decide +kernel)⟩, fun h => absurd h (by decide +kernel)⟩, fun h => absurd h (by decide +kernel)⟩, fun h => absurd h (by decide +kernel)⟩, fun h => absurd h (by decide +kernel)⟩, fun h => absurd h (by decide +kernel)⟩
theorem okGFact : PlainOk Tryd.prog glT 33 cGFact := by
  refine plain_of (CxOk.mk' En_ok rfl mixed (gl := glT) (GOk.cons okDecide Tryd.func34 (by kernel_rfl) (by kernel_rfl) GOk.nil) GoOk.nil noIt) Tryd.func33 (c := Tryd.f33.body.getD .skip) (rvs := [(.tmp 0, .bool)]) (by kernel_rfl) (by kernel_rfl) (by kernel_rfl) ?_
  intro ds k ⟨hp, hk⟩ hwf
  obtain ⟨rfl, -⟩ := dest0 hp
  exact ⟨[joinAll], gfact_vc k hk⟩

theorem agree_vc (n deep liars order : Int) (lies : List Int) (k : List Dat → Prop) (hk : k [⟨.bool, true⟩]) :
    vcF ⟨En, [(33, cGFact), (34, cDecide), (23, cManyR), (35, cBit)], glT, [], []⟩ (anAgree n deep liars order lies) (Tryd.f8.body.getD .skip) Tryd.f8.ntmps [(.tmp 10, .bool)] [⟨I, n⟩, ⟨I, deep⟩, ⟨I, liars⟩, ⟨I, order⟩, ⟨.sl I, lies⟩] k := by
  rw [vcAgree]
  simp only [and_true, true_and, Bool.not_true, Bool.not_eq_true', Bool.not_eq_false', decide_eq_true_eq, decide_eq_false_iff_not]
  refine ⟨fun h => absurd h (by decide), fun _ => ⟨fun h => ?_, fun h => ?_⟩⟩
  · have : decF n deep liars order lies = [] := by unfold decF; rw [if_neg h]
    rw [this]; exact hk
  have g := ge_of h
  have hn := g.hn
  have hd := g.hd
  have hl := dec_len h
  have h128 := lt128 hn.2 g.hl
  refine ⟨fun h1 => absurd (by rw [hl]; omega) h1, fun _ => ⟨by omega, fun _ => hk, fun h1 => ⟨inK_i64.2 (by omega), fun _ => hk, fun h2 => ⟨⟨(1, -1), ⟨h, by simp; omega, by omega, by omega, .inl ⟨rfl, fun j hj hj' => by simp at hj'; omega⟩⟩, rfl, rfl⟩, ?_⟩⟩⟩⟩
  rintro ⟨i, f⟩ hi
  obtain ⟨-, hile, hmany, hthree, hfirst⟩ := hi
  simp only at hile hfirst ⊢
  refine ⟨fun hin => ⟨fun hb => ⟨inK_i64.2 (by omega), (i + 1, f), ⟨h, by simp; omega, hmany, hthree, ?_⟩, by simp; omega, rfl, by simp⟩, fun hb => ⟨fun hf => ⟨by omega, by omega, by omega, by omega, fun hx => absurd trivial hx, fun _ => ⟨inK_i64.2 (by omega), (i + 1, _), ⟨h, by simp; omega, hmany, hthree, .inr ⟨i, hile.1, by simp, hb, ?_⟩⟩, by simp; omega, rfl, by simp⟩⟩, fun hf => ⟨by omega, by omega, fun hx => absurd ?_ hx, fun hx => ⟨inK_i64.2 (by omega), (i + 1, f), ⟨h, by simp; omega, hmany, hthree, .inr ⟨i, hile.1, by simp, hb, ?_⟩⟩, by simp; omega, rfl, by simp⟩⟩⟩⟩, fun _ => hk⟩
  · rcases hfirst with ⟨hf, hall⟩ | ⟨j, h1, h2, h3, h4⟩
    · refine .inl ⟨hf, fun j hj hj' => ?_⟩
      by_cases hji : j = i
      · rw [hji]; exact hb
      · exact hall j hj (by simp at hj'; omega)
    · exact .inr ⟨j, h1, by simp; omega, h3, h4⟩
  · rw [Int.toNat_natCast]; rfl
  · rcases hfirst with ⟨hf', -⟩ | ⟨j, h1, h2, h3, h4⟩
    · omega
    · rw [h4, Int.toNat_natCast]
      exact top_agree h hmany hthree ⟨hile.1, hin⟩ ⟨h1, by omega⟩ hb h3
  · rw [Int.toNat_natCast] at hx; exact hx.symm
theorem obey_vc (n deep liars order : Int) (lies : List Int) (k : List Dat → Prop) (hk : k [⟨.bool, true⟩]) :
    vcF ⟨En, [(33, cGFact), (34, cDecide), (23, cManyR), (35, cBit)], glT, [], []⟩ (anObey n deep liars order lies) (Tryd.f9.body.getD .skip) Tryd.f9.ntmps [(.tmp 10, .bool)] [⟨I, n⟩, ⟨I, deep⟩, ⟨I, liars⟩, ⟨I, order⟩, ⟨.sl I, lies⟩] k := by
  rw [vcObey]
  simp only [and_true, true_and, Bool.not_true, Bool.not_eq_true', Bool.not_eq_false', decide_eq_true_eq, decide_eq_false_iff_not]
  refine ⟨fun h => absurd h (by decide), fun _ => ⟨fun h => ?_, fun h => ?_⟩⟩
  · have : decF n deep liars order lies = [] := by unfold decF; rw [if_neg h]
    rw [this]; exact hk
  have g := ge_of h
  have hn := g.hn
  have hd := g.hd
  have hl := dec_len h
  have h128 := lt128 hn.2 g.hl
  have hpop : popN liars.toNat ≤ 8 := by
    have := popN_le ⟨8, by decide⟩ ⟨liars.toNat, by omega⟩ (by show liars.toNat < 2 ^ 8; omega)
    exact this
  refine ⟨fun h1 => absurd (by rw [hl]; omega) h1, fun _ => ⟨by decide, by omega, fun hx => absurd (dec_zero h) hx, fun _ => ⟨fun _ => hk, fun hz => ⟨by omega, inK_i64.2 (by omega), inK_i64.2 (by omega), fun _ => hk, fun h2 => ⟨⟨1, ⟨h, by omega, hz, by omega⟩, rfl⟩, ?_⟩⟩⟩⟩⟩
  intro i hi
  obtain ⟨-, hile, -, hmany⟩ := hi
  refine ⟨fun hin => ⟨fun hb => ⟨by omega, by omega, fun hx => absurd ?_ hx, fun _ => ⟨inK_i64.2 (by omega), i + 1, ⟨h, by omega, hz, hmany⟩, by omega, by omega⟩⟩, fun hb => ⟨inK_i64.2 (by omega), i + 1, ⟨h, by omega, hz, hmany⟩, by omega, by omega⟩⟩, fun _ => hk⟩
  rw [Int.toNat_natCast]
  exact top_obey h hz (.inr hmany) ⟨hile.1, hin⟩ hb
theorem honest_vc (n deep order : Int) (lies : List Int) (k : List Dat → Prop) (hk : k [⟨.bool, true⟩]) :
    vcF ⟨En, [(33, cGFact), (34, cDecide)], glT, [], []⟩ (anHonest n deep order lies) (Tryd.f10.body.getD .skip) Tryd.f10.ntmps [(.tmp 8, .bool)] [⟨I, n⟩, ⟨I, deep⟩, ⟨I, order⟩, ⟨.sl I, lies⟩] k := by
  rw [vcHonest]
  simp only [and_true, true_and, Bool.not_true, Bool.not_eq_true', Bool.not_eq_false', decide_eq_true_eq, decide_eq_false_iff_not]
  refine ⟨fun h => absurd h (by decide), fun _ => ⟨fun h => ?_, fun h => ?_⟩⟩
  · have : decF n deep 0 order lies = [] := by unfold decF; rw [if_neg h]
    rw [this]; exact hk
  have g := ge_of h
  have hn := g.hn
  have hl := dec_len h
  refine ⟨⟨0, ⟨h, by omega⟩, rfl⟩, fun i hi => ⟨fun hin => ⟨by omega, by omega, fun hx => absurd ?_ hx, fun _ => ⟨inK_i64.2 (by omega), i + 1, ⟨h, by omega⟩, by omega, by omega⟩⟩, fun _ => ?_⟩⟩
  · rw [Int.toNat_natCast]
    exact top_honest h (by omega)
  · rw [show (((decF n deep 0 order lies).length : Nat) : Int) = n by omega, decide_eq_true rfl]; exact hk

theorem okAgree : PlainOk Tryd.prog glT 8 cLawG := by
  refine plain_of (CxOk.mk' En_ok rfl mixed (gl := glT) (GOk.cons okGFact Tryd.func33 (by kernel_rfl) (by kernel_rfl) (GOk.cons okDecide Tryd.func34 (by kernel_rfl) (by kernel_rfl) (GOk.cons okManyR Tryd.func23 (by kernel_rfl) (by kernel_rfl) (GOk.cons okBit Tryd.func35 (by kernel_rfl) (by kernel_rfl) GOk.nil)))) GoOk.nil noIt) Tryd.func8 (c := Tryd.f8.body.getD .skip) (rvs := [(.tmp 10, .bool)]) (by kernel_rfl) (by kernel_rfl) (by kernel_rfl) ?_
  intro ds k ⟨hp, hk⟩ hwf
  obtain ⟨n, d, l, o, x, rfl, -⟩ := dest5 hp
  exact ⟨anAgree n d l o x, agree_vc n d l o x k hk⟩
theorem okObey : PlainOk Tryd.prog glT 9 cLawG := by
  refine plain_of (CxOk.mk' En_ok rfl mixed (gl := glT) (GOk.cons okGFact Tryd.func33 (by kernel_rfl) (by kernel_rfl) (GOk.cons okDecide Tryd.func34 (by kernel_rfl) (by kernel_rfl) (GOk.cons okManyR Tryd.func23 (by kernel_rfl) (by kernel_rfl) (GOk.cons okBit Tryd.func35 (by kernel_rfl) (by kernel_rfl) GOk.nil)))) GoOk.nil noIt) Tryd.func9 (c := Tryd.f9.body.getD .skip) (rvs := [(.tmp 10, .bool)]) (by kernel_rfl) (by kernel_rfl) (by kernel_rfl) ?_
  intro ds k ⟨hp, hk⟩ hwf
  obtain ⟨n, d, l, o, x, rfl, -⟩ := dest5 hp
  exact ⟨anObey n d l o x, obey_vc n d l o x k hk⟩
theorem okHonest : PlainOk Tryd.prog glT 10 cLawH := by
  refine plain_of (CxOk.mk' En_ok rfl mixed (gl := glT) (GOk.cons okGFact Tryd.func33 (by kernel_rfl) (by kernel_rfl) (GOk.cons okDecide Tryd.func34 (by kernel_rfl) (by kernel_rfl) GOk.nil)) GoOk.nil noIt) Tryd.func10 (c := Tryd.f10.body.getD .skip) (rvs := [(.tmp 8, .bool)]) (by kernel_rfl) (by kernel_rfl) (by kernel_rfl) ?_
  intro ds k ⟨hp, hk⟩ hwf
  obtain ⟨n, d, o, x, rfl, -⟩ := dest4 hp
  exact ⟨anHonest n d o x, honest_vc n d o x k hk⟩
end Go.Proofs.YtlopkkoenfngiaaDoor

/- The library's table, as the cards list it, lies in its variable. -/
namespace Go.Proofs.YtlopkkoenfngiaaDoor
open Go.Vc
def Eg : Env := { tys := [(94, .ar 64 (.int .u8))], errT := 58, eqs := [], els := [] }
theorem Eg_ok : EnvOk Tryd.prog Eg := EnvOk.of_list (by kernel_rfl) (by kernel_rfl) (by kernel_rfl)
theorem glOk {W : World} (h : laidMetH Tryd.prog Rows.quorumVotesRow.laid W) : GlOk glT W fun b => b < W.heap.size :=
  gl_of_laid Eg_ok (n := "math/bits.deBruijn64tab") (T := 94) (by kernel_rfl) h (.tail _ (.head _)) (by kernel_rfl) (by kernel_rfl) (by kernel_rfl) (by decide)
end Go.Proofs.YtlopkkoenfngiaaDoor
