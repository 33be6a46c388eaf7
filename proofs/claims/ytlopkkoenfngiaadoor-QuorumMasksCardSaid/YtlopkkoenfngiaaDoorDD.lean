/- Quorums: sets of numbers as bits; what is full; the least ones. -/
import Derived.Test.YtlopkkoenfngiaaDoorDC
import Derived.Test.YtlopkkoenfngiaaDoorDA
import Derived.Test.YtlopkkoenfngiaaDoorDB
import Derived.Test.YtlopkkoenfngiaaDoorVcPA
namespace Go.Proofs.YtlopkkoenfngiaaDoor
open Go.Vc

def sub (a b : Nat) : Prop := ∀ i, a.testBit i = true → b.testBit i = true
theorem sub_and {a b : Nat} (h : sub a b) : a &&& b = a := by
  apply Nat.eq_of_testBit_eq
  intro i
  rw [Nat.testBit_and]
  cases ha : a.testBit i with
  | false => rfl
  | true => rw [h i ha]; rfl
theorem sub_le {a b : Nat} (h : sub a b) : a ≤ b := by
  have := sub_and h
  rw [← this]; exact Nat.and_le_right
theorem sub_trans {a b c : Nat} (h : sub a b) (k : sub b c) : sub a c := fun i hi => k i (h i hi)
theorem subS_iff (a b : Nat) : subS (a : Int) (b : Int) = true ↔ sub a b := by
  unfold subS
  simp only [Int.toNat_natCast, decide_eq_true_eq]
  constructor
  · intro h i hi
    have h0 : a ^^^ (a &&& b) = 0 := by omega
    have := congrArg (fun n => Nat.testBit n i) h0
    simp only [Nat.testBit_xor, Nat.testBit_and, Nat.zero_testBit, hi, Bool.true_and] at this
    simpa using this
  · intro h
    rw [sub_and h, Nat.xor_self]; rfl
theorem meet_iff {a b : Nat} : a &&& b ≠ 0 ↔ ∃ i, a.testBit i = true ∧ b.testBit i = true := by
  constructor
  · intro h
    refine Classical.byContradiction fun hc => h ?_
    apply Nat.eq_of_testBit_eq
    intro i
    rw [Nat.testBit_and, Nat.zero_testBit]
    cases ha : a.testBit i with
    | false => rfl
    | true =>
      cases hb : b.testBit i with
      | false => rfl
      | true => exact absurd ⟨i, ha, hb⟩ hc
  · rintro ⟨i, ha, hb⟩ h
    have := congrArg (fun n => Nat.testBit n i) h
    simp only [Nat.testBit_and, ha, hb, Nat.zero_testBit] at this
    cases this
theorem bit_lt {a n i : Nat} (h : a < 2 ^ n) (hi : a.testBit i = true) : i < n := by
  rcases Nat.lt_or_ge i n with h1 | h1
  · exact h1
  · have := Nat.testBit_lt_two_pow (Nat.lt_of_lt_of_le h (Nat.pow_le_pow_right (by decide) h1))
    rw [this] at hi; cases hi
theorem compl_nat (n : Int) (x : Nat) : complN n (x : Int) = (((2 ^ n.toNat - 1) ^^^ ((2 ^ n.toNat - 1) &&& x) : Nat) : Int) := by
  unfold complN
  have e : (1 * (2 : Int) ^ n.toNat - 1).toNat = 2 ^ n.toNat - 1 := by
    rw [Int.one_mul, powC]
    have := Nat.two_pow_pos n.toNat
    omega
  rw [e, Int.toNat_natCast]
theorem compl_bit (n x i : Nat) : ((2 ^ n - 1) ^^^ ((2 ^ n - 1) &&& x)).testBit i = (decide (i < n) && !x.testBit i) := by
  rw [Nat.testBit_xor, Nat.testBit_and, Nat.testBit_two_pow_sub_one]
  cases decide (i < n) <;> cases x.testBit i <;> rfl

/-- some nodes have one of the sets -/
theorem has_iff {n : Int} {l : List Int} (g : Sets n l) (v : Nat) : hasB l (v : Int) = true ↔ ∃ s : Nat, (s : Int) ∈ l ∧ sub s v := by
  unfold hasB
  rw [List.any_eq_true]
  constructor
  · rintro ⟨s, hs, h⟩
    have := g.mem s hs
    obtain ⟨m, rfl⟩ := Int.eq_ofNat_of_zero_le (show 0 ≤ s by omega)
    exact ⟨m, hs, (subS_iff m v).1 h⟩
  · rintro ⟨s, hs, h⟩
    exact ⟨_, hs, (subS_iff s v).2 h⟩
theorem memN {n : Int} {l : List Int} (g : Sets n l) {s : Nat} (h : (s : Int) ∈ l) : 0 < s ∧ s < 2 ^ n.toNat := by
  have := g.mem _ h
  rw [powC] at this
  omega

theorem firstP_some {p : Nat → Bool} : ∀ {f i x : Nat}, firstP p f i = some x → p x = true ∧ i ≤ x ∧ x < i + f := by
  intro f
  induction f with
  | zero => intro i x h; cases h
  | succ f ih =>
    intro i x h
    unfold firstP at h
    split at h
    · rename_i hp
      injection h with h; subst h
      exact ⟨hp, by omega, by omega⟩
    · have := ih h
      exact ⟨this.1, by omega, by omega⟩
theorem firstP_none {p : Nat → Bool} : ∀ {f i : Nat}, firstP p f i = none → ∀ x, i ≤ x → x < i + f → p x = false := by
  intro f
  induction f with
  | zero => intro i _ x h1 h2; omega
  | succ f ih =>
    intro i h x h1 h2
    unfold firstP at h
    split at h
    · cases h
    · rename_i hp
      by_cases hx : x = i
      · subst hx; simpa using hp
      · exact ih h x (by omega) (by omega)

theorem notfull {n : Int} {l : List Int} (hc : chkS n l = 0) (h : isF n l = false) : ∃ x : Nat, someN n l = (x : Int) ∧ x < 2 ^ n.toNat ∧ neither n l x = true := by
  unfold isF someN at *
  cases hf : fullO n l with
  | none => rw [hf] at h; cases h
  | some x =>
    refine ⟨x, rfl, ?_⟩
    unfold fullO at hf
    rw [if_pos hc] at hf
    have := firstP_some hf
    exact ⟨by omega, this.1⟩
theorem isfull {n : Int} {l : List Int} (hc : chkS n l = 0) (h : isF n l = true) (x : Nat) (hx : x < 2 ^ n.toNat) : neither n l x = false := by
  unfold isF at h
  cases hf : fullO n l with
  | some x => rw [hf] at h; cases h
  | none =>
    unfold fullO at hf
    rw [if_pos hc] at hf
    exact firstP_none hf x (by omega) (by omega)

/-- no set is among all others: each meets these -/
theorem meets_some {n : Int} {l : List Int} (g : Sets n l) {x : Nat} (h : neither n l x = true) {s : Nat} (hs : (s : Int) ∈ l) : s &&& x ≠ 0 := by
  unfold neither at h
  rw [Bool.and_eq_true, Bool.not_eq_true', Bool.not_eq_true'] at h
  rw [meet_iff]
  refine Classical.byContradiction fun hc => ?_
  have h2 := h.2
  rw [compl_nat] at h2
  have : hasB l (((2 ^ n.toNat - 1) ^^^ ((2 ^ n.toNat - 1) &&& x) : Nat) : Int) = true := by
    rw [has_iff g]
    refine ⟨s, hs, fun i hi => ?_⟩
    rw [compl_bit, decide_eq_true (bit_lt (memN g hs).2 hi)]
    cases hx : x.testBit i with
    | false => rfl
    | true => exact absurd ⟨i, hi, hx⟩ hc
  rw [this] at h2; cases h2

/-- each of other sets that meet, one of which is in each, has one of these -/
theorem full_other {n : Int} {l o : List Int} (gl' : Sets n l) (go : Sets n o) (hc : chkS n l = 0) (hf : isF n l = true) (hall : ∀ j, j < l.length → hasB o (l.getD j 0) = true) {t : Nat} (ht : (t : Int) ∈ o) : hasB l (t : Int) = true := by
  have hne := isfull hc hf t (memN go ht).2
  unfold neither at hne
  cases h1 : hasB l (t : Int) with
  | true => rfl
  | false =>
    rw [h1] at hne
    have h2 : hasB l (complN n (t : Int)) = true := by simpa using hne
    rw [compl_nat, has_iff gl'] at h2
    obtain ⟨s, hs, hsub⟩ := h2
    obtain ⟨j, hj, he⟩ := List.getElem_of_mem hs
    have h3 := hall j hj
    rw [getD_at hj, he, has_iff go] at h3
    obtain ⟨u, hu, hus⟩ := h3
    have hm := go.meet _ hu _ ht
    rw [Int.toNat_natCast, Int.toNat_natCast, meet_iff] at hm
    obtain ⟨i, hi1, hi2⟩ := hm
    have := hsub i (hus i hi1)
    rw [compl_bit, hi2] at this
    simp at this

theorem least_mem {l : List Int} {k : Nat} {s : Int} : s ∈ leastU l k ↔ ∃ x : Nat, x < k ∧ s = (x : Int) ∧ leastB l s = true := by
  unfold leastU
  rw [List.mem_filter, List.mem_map]
  constructor
  · rintro ⟨⟨x, hx, rfl⟩, h⟩
    exact ⟨x, List.mem_range.1 hx, rfl, h⟩
  · rintro ⟨x, hx, rfl, h⟩
    exact ⟨⟨x, List.mem_range.2 hx, rfl⟩, h⟩
theorem leastB_iff {n : Int} {l : List Int} (g : Sets n l) (x : Nat) : leastB l (x : Int) = true ↔ (x : Int) ∈ l ∧ ∀ t : Nat, (t : Int) ∈ l → sub t x → t = x := by
  unfold leastB
  rw [Bool.and_eq_true, List.any_eq_true, Bool.not_eq_true']
  constructor
  · rintro ⟨⟨s, hs, he⟩, h2⟩
    have he := of_decide_eq_true he
    subst he
    refine ⟨hs, fun t ht hsub => Classical.byContradiction fun hne => ?_⟩
    have : l.any (lstB (x : Int)) = true := List.any_eq_true.2 ⟨_, ht, by
      unfold lstB
      rw [(subS_iff t x).2 hsub, decide_eq_false (by omega)]; rfl⟩
    rw [this] at h2; cases h2
  · rintro ⟨h1, h2⟩
    refine ⟨⟨_, h1, decide_eq_true rfl⟩, ?_⟩
    cases h3 : l.any (lstB (x : Int)) with
    | false => rfl
    | true =>
      obtain ⟨t, ht, hb⟩ := List.any_eq_true.1 h3
      have := g.mem t ht
      obtain ⟨m, rfl⟩ := Int.eq_ofNat_of_zero_le (show 0 ≤ t by omega)
      unfold lstB at hb
      rw [Bool.and_eq_true, subS_iff] at hb
      have := h2 m ht hb.2
      subst this
      simp at hb
/-- below each set there is a least one -/
theorem least_below {n : Int} {l : List Int} (g : Sets n l) {s : Nat} (hs : (s : Int) ∈ l) : ∃ t : Nat, (t : Int) ∈ leastL n l ∧ sub t s := by
  obtain ⟨t, ⟨ht, hsub⟩, hmin⟩ := exists_least (p := fun t => (t : Int) ∈ l ∧ sub t s) ⟨s, hs, fun _ h => h⟩
  refine ⟨t, least_mem.2 ⟨t, (memN g ht).2, rfl, (leastB_iff g t).2 ⟨ht, fun u hu hut => ?_⟩⟩, hsub⟩
  have h1 := hmin u ⟨hu, sub_trans hut hsub⟩
  have h2 := sub_le hut
  omega

theorem nodup_len : ∀ {l m : List Int}, l.Nodup → (∀ x ∈ l, x ∈ m) → l.length ≤ m.length := by
  intro l
  induction l with
  | nil => intro m _ _; exact Nat.zero_le _
  | cons a r ih =>
    intro m hn hs
    have ha := hs a (.head _)
    rw [List.nodup_cons] at hn
    have := ih (m := m.erase a) hn.2 fun x hx => (List.mem_erase_of_ne (fun (e : x = a) => hn.1 (by rw [← e]; exact hx))).2 (hs x (.tail _ hx))
    rw [List.length_erase_of_mem ha] at this
    have hp := List.length_pos_of_mem ha
    rw [List.length_cons]
    omega
theorem range_nodup (k : Nat) (p : Int → Bool) : (((List.range k).map fun (i : Nat) => (i : Int)).filter p).Nodup := by
  refine List.Pairwise.filter _ ?_
  rw [List.pairwise_map]
  exact (List.pairwise_lt_range (n := k)).imp fun h => by omega
theorem getD_inj {l : List Int} (hn : l.Nodup) {i j : Nat} (hi : i < l.length) (hj : j < l.length) (hij : i ≠ j) : l.getD i 0 ≠ l.getD j 0 := by
  rw [getD_at hi, getD_at hj]
  have := List.pairwise_iff_getElem.1 hn
  rcases Nat.lt_or_gt_of_ne hij with h | h
  · exact this i j hi hj h
  · exact fun e => this j i hj hi h e.symm

theorem least_sets {n : Int} {l : List Int} (g : Sets n l) : Sets n (leastL n l) ∧ (leastL n l).length ≤ l.length := by
  have hin : ∀ s ∈ leastL n l, s ∈ l := by
    intro s hs
    obtain ⟨x, _, rfl, h⟩ := least_mem.1 hs
    exact ((leastB_iff g x).1 h).1
  have hlen := nodup_len (range_nodup (2 ^ n.toNat) (leastB l)) hin
  refine ⟨⟨g.rng, ⟨?_, Nat.le_trans hlen g.len.2⟩, fun s hs => g.mem s (hin s hs), fun s hs t ht => g.meet s (hin s hs) t (hin t ht)⟩, hlen⟩
  have h0 := getD_mem (l := l) (i := 0) g.len.1
  have := g.mem _ h0
  obtain ⟨m, hm⟩ := Int.eq_ofNat_of_zero_le (show 0 ≤ l.getD 0 0 by omega)
  rw [hm] at h0
  obtain ⟨t, ht, _⟩ := least_below g h0
  exact List.length_pos_of_mem ht

theorem least_has {n : Int} {l : List Int} (g : Sets n l) (v : Nat) : hasB l (v : Int) = hasB (leastL n l) (v : Int) := by
  rw [Bool.eq_iff_iff, has_iff g, has_iff (least_sets g).1]
  constructor
  · rintro ⟨s, hs, h⟩
    obtain ⟨t, ht, hts⟩ := least_below g hs
    exact ⟨t, ht, sub_trans hts h⟩
  · rintro ⟨s, hs, h⟩
    obtain ⟨x, _, he, hb⟩ := least_mem.1 hs
    have : s = x := by omega
    subst this
    exact ⟨s, ((leastB_iff g s).1 hb).1, h⟩

theorem least_apart {n : Int} {l : List Int} (g : Sets n l) {i j : Nat} (hi : i < (leastL n l).length) (hj : j < (leastL n l).length) (hij : i ≠ j) : subB ((leastL n l).getD i 0) ((leastL n l).getD j 0) = false := by
  have hne := getD_inj (range_nodup (2 ^ n.toNat) (leastB l)) hi hj hij
  obtain ⟨x, _, hx, hbx⟩ := least_mem.1 (getD_mem hi)
  obtain ⟨y, _, hy, hby⟩ := least_mem.1 (getD_mem hj)
  have hne' : (leastL n l).getD i 0 ≠ (leastL n l).getD j 0 := hne
  have hx' : (leastL n l).getD i 0 = (x : Int) := hx
  have hy' : (leastL n l).getD j 0 = (y : Int) := hy
  have hbx' : leastB l (x : Int) = true := by rw [← hx]; exact hbx
  have hby' : leastB l (y : Int) = true := by rw [← hy]; exact hby
  rw [hx', hy'] at hne'
  rw [hx', hy']
  cases h : subB (x : Int) (y : Int) with
  | false => rfl
  | true =>
    have := ((leastB_iff g y).1 hby').2 x ((leastB_iff g x).1 hbx').1 ((subB_iff x y).1 h)
    exact absurd (by rw [this]) hne'
end Go.Proofs.YtlopkkoenfngiaaDoor

/- Quorums: the closed fact; the laws of what is full, and of the least ones. -/
namespace Go.Proofs.YtlopkkoenfngiaaDoor
open Go.Vc

theorem okFact : PlainOk Tryd.prog glT 12 cFact := by
  refine plain_of (CxOk.mk' Et_ok rfl mixed (gl := glT) (GOk.cons okVotes Tryd.func13 (by kernel_rfl) (by kernel_rfl) (GOk.cons okFull Tryd.func18 (by kernel_rfl) (by kernel_rfl) (GOk.cons okInts Tryd.func29 (by kernel_rfl) (by kernel_rfl) GOk.nil))) GoOk.nil noIt) Tryd.func12 (c := Tryd.f12.body.getD .skip) (rvs := [(.tmp 0, .bool)]) (by kernel_rfl) (by kernel_rfl) (by kernel_rfl) ?_
  intro ds k ⟨hp, hk⟩ hwf
  obtain ⟨rfl, -⟩ := dest0 hp
  have hk : k [⟨.bool, true⟩] := hk
  refine ⟨[], ?_⟩
  rw [vcFact]
  have l1 : (((List.replicate 3 (0 : Int)).set 0 1).set 1 1).set 2 1 = [1, 1, 1] := rfl
  have l2 : (((List.replicate 3 (0 : Int)).set 0 3).set 1 5).set 2 6 = [3, 5, 6] := rfl
  have l3 : ((((List.replicate 4 (0 : Int)).set 0 7).set 1 11).set 2 13).set 3 14 = [7, 11, 13, 14] := rfl
  have e1 : votesE [1, 1, 1] 2 = 0 := by decide +kernel
  have e2 : chkS 3 [3, 5, 6] = 0 := by decide +kernel
  have e3 : chkS 4 [7, 11, 13, 14] = 0 := by decide +kernel
  have e4 : (votesL [1, 1, 1] 2 == [3, 5, 6]) = true := by decide +kernel
  have e5 : isF 3 [3, 5, 6] = true := by decide +kernel
  have e6 : isF 4 [7, 11, 13, 14] = false := by decide +kernel
  have e7 : decide (someN 4 [7, 11, 13, 14] = 3) = true := by decide +kernel
  simp only [l1, l2, l3, e1, e2, e3, e4, e5, e6, e7]
  exact ⟨trivial, trivial, trivial, fun _ => ⟨fun _ => ⟨fun _ => ⟨trivial, fun _ => ⟨fun _ => ⟨fun _ => hk, fun h => by cases h⟩, fun h => by cases h⟩, fun h => by cases h⟩, fun h => by cases h⟩, fun h => by cases h⟩, fun h => by cases h⟩

theorem qf_vc (n : Int) (l o : List Int) (k : List Dat → Prop) (hll : l.length ≤ maxLen) (hol : o.length ≤ maxLen) (hk : k [⟨.bool, true⟩]) :
    vcF ⟨Et, [(12, cFact), (18, cFull), (19, cHas), (20, cCheck), (14, cPow2), (15, cBoth)], glT, [], []⟩ (anQF n l o) (Tryd.f4.body.getD .skip) Tryd.f4.ntmps [(.tmp 6, .bool)] [⟨I, n⟩, ⟨.sl I, l⟩, ⟨.sl I, o⟩] k := by
  rw [vcQF]
  have hml : maxLen ≤ 9223372036854775807 := by decide
  refine ⟨trivial, (fun h => by cases h), fun _ => ⟨trivial, fun hc => ?_, fun hc => ?_⟩⟩
  · have hc : chkS n l ≠ 0 := by simpa using hc
    have e : fullO n l = some 0 := by unfold fullO; rw [if_neg hc]
    have e1 : isF n l = false := by unfold isF; rw [e]; rfl
    have e2 : someN n l = 0 := by unfold someN; rw [e]; rfl
    rw [e1, e2]
    exact ⟨fun _ => hk, fun h => by cases h⟩
  · have hc : chkS n l = 0 := by simpa using hc
    have g := sets_of hc
    have hn := g.rng
    have small : ∀ x : Nat, x < 2 ^ n.toNat → x < 256 := fun x hx => Nat.lt_of_lt_of_le hx (pow8 hn.2)
    refine ⟨fun hf => ?_, fun hf => ?_⟩
    · have hf : isF n l = false := by simpa using hf
      obtain ⟨x, hx, hxl, hne⟩ := notfull hc hf
      have hpc := powC n.toNat
      have hmask : maskB (x : Int) n = true := mask_mk (by omega) (by rw [hpc]; omega)
      have hE : hasE n l (x : Int) = 0 := by unfold hasE; rw [if_pos hc, if_pos hmask]
      have hno : hasB l (x : Int) = false := by
        unfold neither at hne
        rw [Bool.and_eq_true, Bool.not_eq_true'] at hne
        exact hne.1
      rw [hx]
      simp only [hE, hno, hc, hf, decide_eq_true_eq, decide_eq_false_iff_not, and_true, true_and, if_true, Int.toNat_natCast]
      refine ⟨fun h => absurd h (by omega), fun _ => ⟨by omega, fun h => absurd h (by rw [hpc]; omega), fun _ => ⟨⟨0, by omega, rfl⟩, fun y hy => ⟨fun hlt => ?_, fun _ => ⟨fun _ => hk, fun h => absurd trivial h⟩⟩⟩⟩⟩
      have hyl : y < l.length := by omega
      have hm := getD_mem hyl
      have hmm := g.mem _ hm
      obtain ⟨s, hs⟩ := Int.eq_ofNat_of_zero_le (show 0 ≤ l.getD y 0 by omega)
      rw [hs] at hm hmm ⊢
      have h1 := meets_some g hne hm
      have h2 := small s (by rw [hpc] at hmm; omega)
      refine ⟨by omega, hlt, by omega, fun h => absurd h ?_, fun _ => ⟨inK_i64.2 (by omega), y + 1, by omega, by omega, by omega⟩⟩
      rw [Int.toNat_natCast]
      omega
    · have hf : isF n l = true := by simpa using hf
      simp only [hc, hf, decide_eq_true_eq, decide_eq_false_iff_not, and_true, true_and, Bool.not_eq_true', Bool.not_eq_false', Int.toNat_natCast]
      refine ⟨fun _ => hk, fun ho => ?_⟩
      have go := sets_of ho
      simp only [ho, true_and]
      have hasE0 : ∀ (a b : List Int), Sets n a → chkS n b = 0 → ∀ j, j < a.length → hasE n b (a.getD j 0) = 0 := by
        intro a b ga hb j hj
        have hm := ga.mem _ (getD_mem hj)
        unfold hasE
        rw [if_pos hb, if_pos (mask_mk (by omega) hm.2)]
      refine ⟨⟨0, ⟨by omega, fun j hj => by omega⟩, by omega⟩, fun x ⟨hx, hall⟩ => ⟨fun hlt => ?_, fun hge => ?_⟩⟩
      · have hE := hasE0 l o g ho x (by omega)
        rw [hE]
        refine ⟨by omega, hlt, fun h => absurd rfl h, fun _ => ⟨fun _ => hk, fun hb => ⟨inK_i64.2 (by omega), x + 1, ⟨by omega, fun j hj => ?_⟩, by omega, by omega⟩⟩⟩
        rcases Nat.lt_or_ge j x with h1 | h1
        · exact hall j h1
        · have : j = x := by omega
          subst this
          rw [if_pos rfl] at hb; exact hb
      · have hall' : ∀ j, j < l.length → hasB o (l.getD j 0) = true := fun j hj => hall j (by omega)
        refine ⟨⟨0, ⟨by omega, hall'⟩, by omega⟩, fun y ⟨hy, _⟩ => ⟨fun hlt => ?_, fun _ => hk⟩⟩
        have hE := hasE0 o l go hc y (by omega)
        rw [hE]
        have hm := getD_mem (l := o) (i := y) (by omega)
        have hmm := go.mem _ hm
        obtain ⟨s, hs⟩ := Int.eq_ofNat_of_zero_le (show 0 ≤ o.getD y 0 by omega)
        have hB : hasB l (o.getD y 0) = true := by
          rw [hs] at hm ⊢
          exact full_other g go hc hf hall' hm
        rw [hB]
        exact ⟨by omega, hlt, fun h => absurd rfl h, fun _ => ⟨(fun h => by cases h), fun _ => ⟨inK_i64.2 (by omega), y + 1, ⟨by omega, hall'⟩, by omega, by omega⟩⟩⟩

theorem okQF : PlainOk Tryd.prog glT 4 cLawF := by
  refine plain_of (CxOk.mk' Et_ok rfl mixed (gl := glT) (GOk.cons okFact Tryd.func12 (by kernel_rfl) (by kernel_rfl) (GOk.cons okFull Tryd.func18 (by kernel_rfl) (by kernel_rfl) (GOk.cons okHas Tryd.func19 (by kernel_rfl) (by kernel_rfl) (GOk.cons okCheck Tryd.func20 (by kernel_rfl) (by kernel_rfl) (GOk.cons okPow2 Tryd.func14 (by kernel_rfl) (by kernel_rfl) (GOk.cons okBoth Tryd.func15 (by kernel_rfl) (by kernel_rfl) GOk.nil)))))) GoOk.nil noIt) Tryd.func4 (c := Tryd.f4.body.getD .skip) (rvs := [(.tmp 6, .bool)]) (by kernel_rfl) (by kernel_rfl) (by kernel_rfl) ?_
  intro ds k ⟨hp, hk⟩ hwf
  obtain ⟨n, l, o, rfl, -⟩ := dest3 hp
  exact ⟨anQF n l o, qf_vc n l o k (wf3 hwf).2.1.1 (wf3 hwf).2.2.1 hk⟩

theorem ql_vc (n : Int) (l : List Int) (v : Int) (k : List Dat → Prop) (hk : k [⟨.bool, true⟩]) :
    vcF ⟨Et, [(12, cFact), (21, cLeast), (19, cHas), (20, cCheck), (16, cSub)], glT, [], []⟩ (anQL n l) (Tryd.f5.body.getD .skip) Tryd.f5.ntmps [(.tmp 6, .bool)] [⟨I, n⟩, ⟨.sl I, l⟩, ⟨I, v⟩] k := by
  rw [vcQL]
  refine ⟨trivial, (fun h => by cases h), fun _ => ⟨trivial, fun hc => ?_, fun hc => ?_⟩⟩
  · have hc : chkS n l ≠ 0 := by simpa using hc
    rw [if_neg hc]
    exact hk
  · have hc : chkS n l = 0 := by simpa using hc
    have g := sets_of hc
    obtain ⟨gL, hlen⟩ := least_sets g
    have hn := g.len
    have hif : (if chkS n l = 0 then leastU l (2 ^ n.toNat) else []) = leastL n l := if_pos hc
    have hcL := chk_mk gL
    simp only [hif]
    have hEE : hasE n (leastL n l) v = hasE n l v := by unfold hasE; rw [hc, hcL]
    have hBB : (if hasE n l v = 0 then hasB l v else false) = if hasE n l v = 0 then hasB (leastL n l) v else false := by
      by_cases h0 : hasE n l v = 0
      · rw [if_pos h0, if_pos h0]
        have hm : maskB v n = true := by
          unfold hasE at h0
          rw [if_pos hc] at h0
          split at h0
          · rename_i h; exact h
          · exact absurd h0 (by decide)
        obtain ⟨m, rfl⟩ := Int.eq_ofNat_of_zero_le (mask_of hm).1
        exact least_has g m
      · rw [if_neg h0, if_neg h0]
    rw [hEE, hBB]
    simp only [hc, hcL, decide_eq_true_eq, decide_eq_false_iff_not, and_true, true_and, Int.toNat_natCast, beq_self_eq_true, Bool.true_and, Bool.and_true]
    refine ⟨(fun h => by simp at h), fun _ => ⟨fun h => absurd h (by omega), fun _ => ⟨⟨0, by omega, by omega⟩, fun x hx => ⟨fun hlt => ⟨⟨0, by omega, by omega⟩, fun y hy => ⟨fun hlt2 => ⟨⟨fun _ => ⟨by omega, hlt, by omega, hlt2⟩, fun _ => trivial⟩, fun h => ?_, fun _ => ⟨inK_i64.2 (by omega), y + 1, by omega, by omega, by omega⟩⟩, fun _ => ⟨inK_i64.2 (by omega), x + 1, by omega, by omega, by omega⟩⟩⟩, fun hge => ?_⟩⟩⟩⟩
    · have hxy : x ≠ y := by
        intro e
        subst e
        simp at h
      have := least_apart g (i := x) (j := y) (by omega) (by omega) hxy
      rw [this] at h
      simp at h
    · exact ⟨⟨fun _ => trivial, fun _ => trivial⟩, hk⟩

theorem okQL : PlainOk Tryd.prog glT 5 cLawL := by
  refine plain_of (CxOk.mk' Et_ok rfl mixed (gl := glT) (GOk.cons okFact Tryd.func12 (by kernel_rfl) (by kernel_rfl) (GOk.cons okLeast Tryd.func21 (by kernel_rfl) (by kernel_rfl) (GOk.cons okHas Tryd.func19 (by kernel_rfl) (by kernel_rfl) (GOk.cons okCheck Tryd.func20 (by kernel_rfl) (by kernel_rfl) (GOk.cons okSub Tryd.func16 (by kernel_rfl) (by kernel_rfl) GOk.nil))))) GoOk.nil noIt) Tryd.func5 (c := Tryd.f5.body.getD .skip) (rvs := [(.tmp 6, .bool)]) (by kernel_rfl) (by kernel_rfl) (by kernel_rfl) ?_
  intro ds k ⟨hp, hk⟩ hwf
  obtain ⟨n, l, v, rfl, -⟩ := dest3 hp
  exact ⟨anQL n l, ql_vc n l v k hk⟩
end Go.Proofs.YtlopkkoenfngiaaDoor

/- Quorums: weights of sets. -/
namespace Go.Proofs.YtlopkkoenfngiaaDoor
open Go.Vc

/-- the weights of a set over the first k nodes -/
def SS (w : List Int) (a : Nat) (k : Nat) : Int := ((List.range k).map fun i => if a.testBit i = true then w.getD i 0 else 0).sum
theorem SS_succ (w : List Int) (a k : Nat) : SS w a (k + 1) = SS w a k + (if a.testBit k = true then w.getD k 0 else 0) := by
  unfold SS
  rw [List.range_succ, List.map_append, List.sum_append]; simp
theorem filter_sum (f : Nat → Int) (p : Nat → Bool) : ∀ l : List Nat, ((l.filter p).map f).sum = (l.map fun i => if p i = true then f i else 0).sum := by
  intro l
  induction l with
  | nil => rfl
  | cons a r ih =>
    rw [List.filter_cons, List.map_cons, List.sum_cons, ← ih]
    cases h : p a <;> simp
theorem sumW_nat (w : List Int) {a : Nat} (ha : a < 2 ^ 64) : sumW w (a : Int) = SS w a 64 := by
  unfold sumW sumL bitsOf bitsN SS
  have e : ((a : Int) % 18446744073709551616).toNat = a := by
    have : a < 18446744073709551616 := ha
    omega
  rw [e, List.map_map, filter_sum, List.range_eq_range']
  rfl
theorem SS_mono {w : List Int} (hw : wOk w) {a b : Nat} (h : sub a b) : ∀ k, SS w a k ≤ SS w b k := by
  intro k
  induction k with
  | zero => exact Int.le_refl _
  | succ k ih =>
    rw [SS_succ, SS_succ]
    have := w_at hw k
    cases ha : a.testBit k with
    | true => rw [h k ha]; simp only [if_true]; omega
    | false => simp only [Bool.false_eq_true, if_false]; split <;> omega
theorem sum_take (w : List Int) : ∀ k, ((List.range k).map fun i => w.getD i 0).sum = (w.take k).sum := by
  intro k
  induction k with
  | zero => rfl
  | succ k ih =>
    rw [List.range_succ, List.map_append, List.sum_append, ih]
    rcases Nat.lt_or_ge k w.length with h | h
    · rw [sum_snoc h]; simp
    · rw [List.take_of_length_le (by omega), List.take_of_length_le (show w.length ≤ k + 1 by omega)]
      simp [List.getElem?_eq_none h]
theorem SS_disj {w : List Int} (hw : wOk w) {a b : Nat} (h : ∀ i, ¬ (a.testBit i = true ∧ b.testBit i = true)) : ∀ k, SS w a k + SS w b k ≤ ((List.range k).map fun i => w.getD i 0).sum := by
  intro k
  induction k with
  | zero => exact Int.le_refl _
  | succ k ih =>
    rw [SS_succ, SS_succ, List.range_succ, List.map_append, List.sum_append]
    have h1 := w_at hw k
    have h2 := h k
    have e : ((([k] : List Nat).map fun i => w.getD i 0)).sum = w.getD k 0 := by simp
    rw [e]
    cases ha : a.testBit k with
    | true =>
      have hb : b.testBit k = false := by
        cases hb : b.testBit k with
        | false => rfl
        | true => exact absurd ⟨ha, hb⟩ h2
      rw [hb]; simp only [if_true, Bool.false_eq_true, if_false]; omega
    | false => simp only [Bool.false_eq_true, if_false]; split <;> omega
theorem SS_full {w : List Int} {n : Nat} (hn : w.length ≤ n) : ∀ k, SS w (2 ^ n - 1) k = ((List.range k).map fun i => w.getD i 0).sum := by
  intro k
  induction k with
  | zero => rfl
  | succ k ih =>
    rw [SS_succ, ih, List.range_succ, List.map_append, List.sum_append, Nat.testBit_two_pow_sub_one]
    by_cases h : k < n
    · simp [h]
    · simp [h, List.getElem?_eq_none (show w.length ≤ k by omega)]

/-- a set without one of its own -/
def lessN (b k : Nat) : Nat := b ^^^ (b &&& 2 ^ k)
theorem lessN_bit (b k i : Nat) : (lessN b k).testBit i = (b.testBit i && !decide (k = i)) := by
  unfold lessN
  rw [Nat.testBit_xor, Nat.testBit_and, Nat.testBit_two_pow]
  cases b.testBit i <;> cases decide (k = i) <;> rfl
theorem lessI_nat (b k : Nat) : lessI (b : Int) (k : Int) = (lessN b k : Int) := by
  unfold lessI lessN
  rw [Int.toNat_natCast, Int.toNat_natCast, Int.one_mul, powC, Int.toNat_natCast]
theorem lessN_lt {b n k : Nat} (h : b < 2 ^ n) : lessN b k < 2 ^ n := Nat.xor_lt_two_pow h (Nat.lt_of_le_of_lt Nat.and_le_left h)

/-- what the list of votes has -/
theorem votes_ok {w : List Int} {need : Int} (h : votesE w need = 0) : wOk w ∧ 0 < w.length ∧ 1 ≤ need ∧ need ≤ w.sum ∧ w.sum < 2 * need := by
  unfold votesE at h
  split at h
  · exact absurd h (by decide)
  rename_i h1
  split at h
  · exact absurd h (by decide)
  rename_i h2
  split at h
  · exact absurd h (by decide)
  rename_i h3
  split at h
  · exact absurd h (by decide)
  rename_i h4
  split at h
  · exact absurd h (by decide)
  rename_i h5
  have ha : w.all (fun x => inB x 0 20) = true := by simpa using h3
  have hb : inB need 1 w.sum = true := by simpa using h4
  have hb := inB_of hb
  exact ⟨⟨by omega, fun x hx => inB_of (List.all_eq_true.1 ha x hx)⟩, by omega, hb.1, hb.2, by omega⟩

theorem low_iff {w : List Int} (hw : wOk w) (need : Int) {s : Nat} (hs : s < 2 ^ w.length) : lowB w need (s : Int) = true ↔ need ≤ SS w s 64 ∧ ∀ i, s.testBit i = true → SS w (lessN s i) 64 < need := by
  have h64 : 2 ^ w.length ≤ 2 ^ 64 := Nat.pow_le_pow_right (by decide) (by have := hw.1; omega)
  have hs64 : s < 2 ^ 64 := Nat.lt_of_lt_of_le hs h64
  unfold lowB lowL
  rw [Bool.and_eq_true, decide_eq_true_eq, List.all_eq_true, sumW_nat w hs64]
  constructor
  · rintro ⟨h1, h2⟩
    refine ⟨h1, fun i hi => ?_⟩
    have := of_decide_eq_true (h2 (i : Int) ((bitsOf_mem hs64 _).2 ⟨i, rfl, hi⟩))
    rwa [lessI_nat, sumW_nat w (Nat.lt_of_lt_of_le (lessN_lt hs) h64)] at this
  · rintro ⟨h1, h2⟩
    refine ⟨h1, fun y hy => ?_⟩
    obtain ⟨i, rfl, hi⟩ := (bitsOf_mem hs64 y).1 hy
    rw [lessI_nat, sumW_nat w (Nat.lt_of_lt_of_le (lessN_lt hs) h64)]
    exact decide_eq_true (h2 i hi)

theorem votes_mem {w : List Int} {need : Int} (h : votesE w need = 0) {s : Int} : s ∈ votesL w need ↔ ∃ x : Nat, x < 2 ^ w.length ∧ s = (x : Int) ∧ lowB w need (x : Int) = true := by
  unfold votesL votesU
  rw [if_pos h, List.mem_filter, List.mem_map]
  constructor
  · rintro ⟨⟨x, hx, rfl⟩, h⟩
    exact ⟨x, List.mem_range.1 hx, rfl, h⟩
  · rintro ⟨x, hx, rfl, h⟩
    exact ⟨⟨x, List.mem_range.2 hx, rfl⟩, h⟩
theorem votes_nodup {w : List Int} {need : Int} (h : votesE w need = 0) : (votesL w need).Nodup := by
  unfold votesL votesU
  rw [if_pos h]
  exact range_nodup _ _

/-- below whatever is heavy enough there is a least one -/
theorem votes_below {w : List Int} {need : Int} (h : votesE w need = 0) {y : Nat} (hy : y < 2 ^ w.length) (hs : need ≤ SS w y 64) : ∃ x : Nat, (x : Int) ∈ votesL w need ∧ sub x y := by
  obtain ⟨hw, -⟩ := votes_ok h
  obtain ⟨x, ⟨hx, hxs⟩, hmin⟩ := exists_least (p := fun x => sub x y ∧ need ≤ SS w x 64) ⟨y, fun _ h => h, hs⟩
  have hxl : x < 2 ^ w.length := Nat.lt_of_le_of_lt (sub_le hx) hy
  refine ⟨x, (votes_mem h).2 ⟨x, hxl, rfl, (low_iff hw need hxl).2 ⟨hxs, fun i hi => ?_⟩⟩, hx⟩
  refine Int.not_le.1 fun hge => ?_
  have hsub : sub (lessN x i) x := fun j hj => by
    rw [lessN_bit, Bool.and_eq_true] at hj
    exact hj.1
  have h1 := hmin (lessN x i) ⟨sub_trans hsub hx, hge⟩
  have h2 := sub_le hsub
  have : lessN x i = x := by omega
  have h3 := lessN_bit x i i
  rw [this, hi] at h3
  simp at h3

theorem sum64 {w : List Int} (hw : wOk w) : ((List.range 64).map fun i => w.getD i 0).sum = w.sum := by
  rw [sum_take, List.take_of_length_le (by have := hw.1; omega)]

theorem votes_some {w : List Int} {need : Int} (h : votesE w need = 0) : 0 < (votesL w need).length := by
  obtain ⟨hw, h0, h1, h2, h3⟩ := votes_ok h
  have hp := Nat.two_pow_pos w.length
  obtain ⟨x, hx, _⟩ := votes_below h (y := 2 ^ w.length - 1) (by omega) (by rw [SS_full (Nat.le_refl _), sum64 hw]; exact h2)
  exact List.length_pos_of_mem hx

/-- any two of them -/
theorem votes_two {w : List Int} {need : Int} (h : votesE w need = 0) {a b : Nat} (ha : (a : Int) ∈ votesL w need) (hb : (b : Int) ∈ votesL w need) : a &&& b ≠ 0 ∧ (a ≠ b → ¬ sub a b) := by
  obtain ⟨hw, h0, h1, h2, h3⟩ := votes_ok h
  obtain ⟨a', hal, e1, hla⟩ := (votes_mem h).1 ha
  obtain ⟨b', hbl, e2, hlb⟩ := (votes_mem h).1 hb
  have e1 : a = a' := by omega
  have e2 : b = b' := by omega
  subst e1; subst e2
  have la := (low_iff hw need hal).1 hla
  have lb := (low_iff hw need hbl).1 hlb
  refine ⟨?_, fun hne hsub => ?_⟩
  · rw [meet_iff]
    refine Classical.byContradiction fun hc => ?_
    have := SS_disj hw (a := a) (b := b) (fun i hi => hc ⟨i, hi⟩) 64
    rw [sum64 hw] at this
    have := la.1
    have := lb.1
    omega
  · have hex : ∃ k, b.testBit k = true ∧ a.testBit k = false := by
      refine Classical.byContradiction fun hc => hne ?_
      apply Nat.eq_of_testBit_eq
      intro i
      cases ha : a.testBit i with
      | true => exact (hsub i ha).symm
      | false =>
        cases hb : b.testBit i with
        | false => rfl
        | true => exact absurd ⟨i, hb, ha⟩ hc
    obtain ⟨k, hk1, hk2⟩ := hex
    have h4 := lb.2 k hk1
    have h5 := SS_mono hw (a := a) (b := lessN b k) (fun i hi => by
      rw [lessN_bit, hsub i hi]
      have : k ≠ i := fun e => by subst e; rw [hk2] at hi; cases hi
      simp [this]) 64
    have := la.1
    omega
theorem votes_pos {w : List Int} {need : Int} (h : votesE w need = 0) {s : Int} (hs : s ∈ votesL w need) : ∃ a : Nat, s = (a : Int) ∧ 0 < a ∧ a < 2 ^ w.length := by
  obtain ⟨hw, h0, h1, h2, h3⟩ := votes_ok h
  obtain ⟨a, hal, rfl, hla⟩ := (votes_mem h).1 hs
  refine ⟨a, rfl, ?_, hal⟩
  have la := ((low_iff hw need hal).1 hla).1
  rcases Nat.eq_zero_or_pos a with e | e
  · subst e
    have hz : ∀ k, SS w 0 k = 0 := by
      intro k
      induction k with
      | zero => rfl
      | succ k ih => rw [SS_succ, ih]; simp
    rw [hz] at la
    omega
  · exact e
/-- where one vote more is needed -/
theorem votes_more {w : List Int} {need : Int} (h : votesE w need = 0) (h' : votesE w (need + 1) = 0) {m : Int} (hm : m ∈ votesL w (need + 1)) : someB (votesL w need) m (votesL w need).length = true := by
  obtain ⟨hw, -⟩ := votes_ok h
  obtain ⟨a, rfl, ha0, hal⟩ := votes_pos h' hm
  obtain ⟨a', _, e, hla⟩ := (votes_mem h').1 hm
  have e : a = a' := by omega
  subst e
  have la := ((low_iff hw (need + 1) hal).1 hla).1
  obtain ⟨x, hx, hsub⟩ := votes_below h hal (by omega)
  obtain ⟨j, hj, he⟩ := List.getElem_of_mem hx
  unfold someB
  refine List.any_eq_true.2 ⟨j, List.mem_range.2 hj, ?_⟩
  rw [getD_at hj, he, decide_eq_true (show (0 : Int) < (a : Int) by omega), Bool.true_and]
  exact (subB_iff x a).2 hsub
theorem someB_succ (l : List Int) (m : Int) (k : Nat) : someB l m (k + 1) = (someB l m k || decide (0 < m) && subB (l.getD k 0) m) := by
  unfold someB
  rw [List.range_succ, List.any_append]; simp
theorem votes_need {w : List Int} {need : Int} (h : votesE w need = 0) (h' : votesE w (need + 1) ≠ 0) : w.sum ≤ need := by
  obtain ⟨hw, h0, h1, h2, h3⟩ := votes_ok h
  refine Int.not_lt.1 fun hlt => h' ?_
  have hall : w.all (fun x => inB x 0 20) = true := List.all_eq_true.2 fun x hx => by
    have := hw.2 x hx
    unfold inB; simp; omega
  have hb : inB (need + 1) 1 w.sum = true := by unfold inB; simp; omega
  unfold votesE
  rw [if_neg (by omega), if_neg (by have := hw.1; omega), if_neg (by rw [hall]; decide), if_neg (by rw [hb]; decide), if_neg (by omega)]
end Go.Proofs.YtlopkkoenfngiaaDoor

/- Quorums: the law of votes. -/
namespace Go.Proofs.YtlopkkoenfngiaaDoor
open Go.Vc

theorem qv_vc (w : List Int) (need : Int) (k : List Dat → Prop) (hk : k [⟨.bool, true⟩]) :
    vcF ⟨Et, [(12, cFact), (13, cVotes), (14, cPow2), (15, cBoth), (16, cSub), (17, cSumL)], glT, [], []⟩ (anQV w need) (Tryd.f3.body.getD .skip) Tryd.f3.ntmps [(.tmp 4, .bool)] [⟨.sl I, w⟩, ⟨I, need⟩] k := by
  rw [vcQV]
  refine ⟨trivial, (fun h => by cases h), fun _ => ⟨trivial, fun hc => ?_, fun hc => ?_⟩⟩
  · have hc : votesE w need ≠ 0 := by simpa using hc
    have e : votesL w need = [] := by unfold votesL; rw [if_neg hc]
    rw [e]
    exact hk
  · have hc : votesE w need = 0 := by simpa using hc
    obtain ⟨hw, h0, h1, h2, h3⟩ := votes_ok hc
    have hpc := powC w.length
    have hpw : 2 ^ w.length ≤ 256 := Nat.pow_le_pow_right (n := 2) (by decide) hw.1
    have hsum := sum_bd hw.2
    have hwl := hw.1
    have hlen : (votesL w need).length ≤ 256 := by
      unfold votesL
      rw [if_pos hc]
      exact Nat.le_trans (votesU_len _ _ _) hpw
    have hlen2 : (votesL w (need + 1)).length ≤ 256 := by
      unfold votesL
      split
      · exact Nat.le_trans (votesU_len _ _ _) hpw
      · exact Nat.zero_le _
    have hnd := votes_nodup hc
    have hpos := votes_some hc
    simp only [hc, decide_eq_true_eq, decide_eq_false_iff_not, and_true, true_and, Int.toNat_natCast, Bool.not_eq_true', Bool.not_eq_false', Bool.or_eq_true, Bool.or_eq_false_iff]
    refine ⟨⟨0, by omega, by omega⟩, fun x hx => ⟨fun hlt => ?_, fun hge => ?_⟩⟩
    · have hxl : x < (votesL w need).length := by omega
      have hm := getD_mem hxl
      obtain ⟨a, ha, ha0, hal⟩ := votes_pos hc hm
      rw [ha] at hm ⊢
      refine ⟨⟨by omega, hlt, fun _ => trivial, fun _ => ⟨by omega, hlt, by omega⟩⟩, fun h => ?_, fun _ => ⟨⟨0, by omega, by omega⟩, fun y hy => ⟨fun hlt2 => ?_, fun _ => ⟨inK_i64.2 (by omega), x + 1, by omega, by omega, by omega⟩⟩⟩⟩
      · rcases h with h | h
        · omega
        · rw [hpc] at h; omega
      · have hyl : y < (votesL w need).length := by omega
        have hm2 := getD_mem hyl
        obtain ⟨b, hb, hb0, hbl⟩ := votes_pos hc hm2
        have hne := getD_inj hnd hxl hyl (by omega)
        rw [ha, hb] at hne
        rw [hb] at hm2 ⊢
        have hab := votes_two hc hm hm2
        have hba := votes_two hc hm2 hm
        have s1 : subB (a : Int) (b : Int) = false := by
          cases h : subB (a : Int) (b : Int) with
          | false => rfl
          | true => exact absurd ((subB_iff a b).1 h) (hab.2 (by omega))
        have s2 : subB (b : Int) (a : Int) = false := by
          cases h : subB (b : Int) (a : Int) with
          | false => rfl
          | true => exact absurd ((subB_iff b a).1 h) (hba.2 (by omega))
        have s3 : ¬ ((a &&& b : Nat) : Int) = 0 := by have := hab.1; omega
        simp only [s1, s2, s3, Int.toNat_natCast, false_or, or_self, and_self, not_false_eq_true, false_and, true_and, Bool.false_eq_true]
        refine ⟨⟨by omega, hlt, by omega, by omega, by omega, (fun h => h.elim), fun _ => ⟨by omega, hlt, by omega, by omega, (fun h => h.elim), fun _ => ⟨by omega, by omega, by omega, hlt⟩⟩⟩, (fun h => h.elim), fun _ => ⟨inK_i64.2 (by omega), y + 1, by omega, by omega, by omega⟩⟩
    · refine ⟨fun h => absurd h (by omega), fun _ => ⟨inK_i64.2 (by omega), fun hE => ⟨⟨hw.2, hw.1⟩, ?_⟩, fun hE => ?_⟩⟩
      · have := votes_need hc hE
        rw [decide_eq_true this]; exact hk
      · simp only [hE, and_true]
        refine ⟨⟨0, by omega, by omega⟩, fun x hx => ⟨fun hlt => ⟨⟨0, by omega, rfl, by omega⟩, fun y hy => ⟨fun hlt2 => ?_, fun hge2 => ?_⟩⟩, fun _ => hk⟩⟩
        · refine ⟨⟨fun _ => trivial, fun _ => ⟨by omega, hlt, fun _ => ⟨by omega, hlt2, by omega, hlt⟩, fun _ => trivial⟩⟩, inK_i64.2 (by omega), y + 1, by omega, by omega, (someB_succ _ _ _).symm, by omega⟩
        · have hy2 : y = (votesL w need).length := by omega
          have hm := getD_mem (l := votesL w (need + 1)) (i := x) (by omega)
          have := votes_more hc hE hm
          rw [hy2, this]
          exact ⟨(fun h => by cases h), fun _ => ⟨inK_i64.2 (by omega), x + 1, by omega, by omega, by omega⟩⟩

theorem okQV : PlainOk Tryd.prog glT 3 cLawV := by
  refine plain_of (CxOk.mk' Et_ok rfl mixed (gl := glT) (GOk.cons okFact Tryd.func12 (by kernel_rfl) (by kernel_rfl) (GOk.cons okVotes Tryd.func13 (by kernel_rfl) (by kernel_rfl) (GOk.cons okPow2 Tryd.func14 (by kernel_rfl) (by kernel_rfl) (GOk.cons okBoth Tryd.func15 (by kernel_rfl) (by kernel_rfl) (GOk.cons okSub Tryd.func16 (by kernel_rfl) (by kernel_rfl) (GOk.cons okSumL Tryd.func17 (by kernel_rfl) (by kernel_rfl) GOk.nil)))))) GoOk.nil noIt) Tryd.func3 (c := Tryd.f3.body.getD .skip) (rvs := [(.tmp 4, .bool)]) (by kernel_rfl) (by kernel_rfl) (by kernel_rfl) ?_
  intro ds k ⟨hp, hk⟩ hwf
  obtain ⟨w, need, rfl, -⟩ := dest2 hp
  exact ⟨anQV w need, qv_vc w need k hk⟩
end Go.Proofs.YtlopkkoenfngiaaDoor

/- The library's table, as the cards list it, lies in its variable. -/
namespace Go.Proofs.YtlopkkoenfngiaaDoor
open Go.Vc
def Eg : Env := { tys := [(94, .ar 64 (.int .u8))], errT := 58, eqs := [], els := [] }
theorem Eg_ok : EnvOk Tryd.prog Eg := EnvOk.of_list (by kernel_rfl) (by kernel_rfl) (by kernel_rfl)
theorem glOk {W : World} (h : laidMetH Tryd.prog Rows.quorumVotesRow.laid W) : GlOk glT W fun b => b < W.heap.size :=
  gl_of_laid Eg_ok (n := "math/bits.deBruijn64tab") (T := 94) (by kernel_rfl) h (.tail _ (.head _)) (by kernel_rfl) (by kernel_rfl) (by kernel_rfl) (by decide)
end Go.Proofs.YtlopkkoenfngiaaDoor
