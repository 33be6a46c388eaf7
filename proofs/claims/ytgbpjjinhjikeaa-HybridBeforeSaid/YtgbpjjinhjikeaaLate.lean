/- HybridLate's function answers true. -/
import Derived.Test.YtgbpjjinhjikeaaOk5
import Derived.Test.YtgbpjjinhjikeaaM3
import Derived.Test.YtgbpjjinhjikeaaV6
namespace Go.Proofs.Ytgbpjjinhjikeaa
open Go.Vc

theorem hchk_ok {t : Tr} {ts : List Int} (h : hchk t ts = 0) : chk t = 0 ∧ ts.length = t.2.1.length ∧ ts.all timeB = true := by
  unfold hchk at h
  split at h
  · rename_i h1
    split at h
    · rename_i h2
      split at h
      · rename_i h3; exact ⟨h1, h2, h3⟩
      · cases h
    · cases h
  · rename_i h1; exact absurd h h1

theorem time_at {ts : List Int} (h : ts.all timeB = true) (j : Nat) : 0 ≤ ts.getD j 0 ∧ ts.getD j 0 ≤ 1000000 := by
  rw [List.getD_eq_getElem?_getD]
  by_cases hj : j < ts.length
  · rw [List.getElem?_eq_getElem hj]
    have := List.all_eq_true.1 h _ (List.getElem_mem hj)
    simpa [timeB, inB] using this
  · rw [List.getElem?_eq_none (by omega)]
    decide

theorem nextS_time (a b : Stp) (n : Int) {m : Int} (ha : -1 ≤ a.1 ∧ a.1 ≤ m) (hb : -1 ≤ b.1 ∧ b.1 ≤ m) (hn : 0 ≤ n ∧ n ≤ m) : 0 ≤ (nextS a b n).1 ∧ (nextS a b n).1 ≤ m := by
  unfold nextS
  dsimp only
  omega

theorem sst_time (l : List Ev) {ts : List Int} (h : ts.all timeB = true) : ∀ i j, (-1 ≤ ((sst l ts i).1.getD j (0, 0, ())).1 ∧ ((sst l ts i).1.getD j (0, 0, ())).1 ≤ 1000000) ∧ (-1 ≤ ((sst l ts i).2.getD j (0, 0, ())).1 ∧ ((sst l ts i).2.getD j (0, 0, ())).1 ≤ 1000000) := by
  intro i
  induction i with
  | zero =>
    intro j
    simp only [sst, List.getD_eq_getElem?_getD, List.getElem?_replicate, List.getElem?_nil, Option.getD_none]
    refine ⟨by omega, ?_⟩
    split
    · simp [noS]
    · simp
  | succ i ih =>
    intro j
    have hb : (-1 : Int) ≤ (if 0 ≤ (l.getD i (0, 0, ())).2.1 then (sst l ts i).1.getD (l.getD i (0, 0, ())).2.1.toNat (0, 0, ()) else noS).1 ∧ (if 0 ≤ (l.getD i (0, 0, ())).2.1 then (sst l ts i).1.getD (l.getD i (0, 0, ())).2.1.toNat (0, 0, ()) else noS).1 ≤ 1000000 := by
      split
      · exact (ih _).1
      · simp [noS]
    have h1 := nextS_time _ _ _ (ih (l.getD i (0, 0, ())).1.toNat).2 hb (time_at h i)
    have h2 := ih j
    simp only [sst, getD_app, getD_set']
    refine ⟨?_, ?_⟩
    · split
      · omega
      · omega
    · split
      · omega
      · omega

/-- the one is later than the other, by so much; or both are none -/
def later (d : Int) (a b : Stp) : Prop := 0 ≤ a.1 ∧ b.1 = a.1 + d ∧ b.2.1 = a.2.1
def laterN (d : Int) (a b : Stp) : Prop := (a.1 = -1 ∧ b.1 = -1 ∧ b.2.1 = a.2.1) ∨ later d a b

theorem nextS_late {d : Int} (hd : 0 ≤ d) {a a' b b' : Stp} (ha : laterN d a a') (hb : laterN d b b') {n : Int} (hn : 0 ≤ n) : later d (nextS a b n) (nextS a' b' (n + d)) := by
  unfold laterN later at ha hb
  unfold later nextS
  dsimp only
  refine ⟨by omega, by omega, ?_⟩
  split <;> split <;> split <;> split <;> omega

theorem sst_late {d : Int} (hd : 0 ≤ d) (l : List Ev) {ts us : List Int} (hu : ∀ j, j < l.length → us.getD j 0 = ts.getD j 0 + d) (ht : ∀ j, j < l.length → 0 ≤ ts.getD j 0) (hp : ∀ j, j < l.length → prc l j < 5) (hf : ∀ j, j < l.length → frm l j < (j : Int)) :
    ∀ i, i ≤ l.length → (∀ j, j < i → later d ((sst l ts i).1.getD j (0, 0, ())) ((sst l us i).1.getD j (0, 0, ()))) ∧ ∀ p, p < 5 → laterN d ((sst l ts i).2.getD p (0, 0, ())) ((sst l us i).2.getD p (0, 0, ())) := by
  intro i
  induction i with
  | zero =>
    intro _
    refine ⟨fun j hj => by omega, fun p hp5 => ?_⟩
    simp only [sst, List.getD_eq_getElem?_getD, List.getElem?_replicate, if_pos hp5]
    exact .inl ⟨rfl, rfl, rfl⟩
  | succ i ih =>
    intro hi
    obtain ⟨h1, h2⟩ := ih (by omega)
    have hpi : (l.getD i (0, 0, ())).1.toNat < 5 := hp i (by omega)
    have hfi : (l.getD i (0, 0, ())).2.1 < (i : Int) := hf i (by omega)
    have hheard : laterN d (if 0 ≤ (l.getD i (0, 0, ())).2.1 then (sst l ts i).1.getD (l.getD i (0, 0, ())).2.1.toNat (0, 0, ()) else noS) (if 0 ≤ (l.getD i (0, 0, ())).2.1 then (sst l us i).1.getD (l.getD i (0, 0, ())).2.1.toNat (0, 0, ()) else noS) := by
      split
      · exact .inr (h1 _ (by omega))
      · exact .inl ⟨rfl, rfl, rfl⟩
    have hnx := nextS_late hd (h2 _ hpi) hheard (ht i (by omega))
    rw [← hu i (by omega)] at hnx
    have l1 := (sst_len l ts i)
    have l2 := (sst_len l us i)
    simp only [sst, getD_app, getD_set', l1.1, l2.1, l1.2, l2.2]
    refine ⟨fun j hj => ?_, fun p hp5 => ?_⟩
    · split
      · exact hnx
      · exact h1 j (by omega)
    · split
      · exact .inr hnx
      · exact h2 p hp5

theorem lateL_len (ts : List Int) (d : Int) {x : Nat} (h : x ≤ ts.length) : (lateL ts d x).length = x := by simp [lateL]; omega
theorem lateL_at (ts : List Int) (d : Int) {x j : Nat} (hj : j < x) (h : x ≤ ts.length) : (lateL ts d x).getD j 0 = ts.getD j 0 + d := by
  have h1 : j < ts.length := by omega
  rw [List.getD_eq_getElem?_getD, List.getD_eq_getElem?_getD]
  simp [lateL, List.getElem?_take, hj, h1]
theorem lateL_step (ts : List Int) (d : Int) {x : Nat} (h : x < ts.length) : lateL ts d x ++ [ts.getD x 0 + d] = lateL ts d (x + 1) := by
  rw [List.getD_eq_getElem?_getD, List.getElem?_eq_getElem h]
  unfold lateL
  rw [List.take_add_one, List.getElem?_eq_getElem h, List.map_append]
  rfl

theorem late_vc (t : Tr) (ts : List Int) (d : Int) (k : List Dat → Prop) (hk : k [⟨.bool, true⟩]) : vcF ⟨Eh, [(16, cHFact), (17, cStamps)]⟩ (anLate t ts d) (Try.f5.body.getD .skip) Try.f5.ntmps [(.tmp 6, .bool)] [⟨tTr, t⟩, ⟨.sl I, ts⟩, ⟨I, d⟩] k := by
  rw [vcLate]
  have ret : ∀ x : Bool, x = true → k [⟨.bool, x⟩] := by rintro _ rfl; exact hk
  simp only [decide_eq_true_eq, decide_eq_false_iff_not, and_true, true_and, Bool.not_eq_true', Bool.not_eq_false', Int.toNat_natCast, implies_true, eq_self, inK_i64, List.replicate, List.set_cons_zero, List.length_cons, List.length_nil]
  refine ⟨(fun h => by cases h), fun _ => ⟨fun h => ret _ ?_, fun h => ⟨fun _ => hk, fun hd0 => ⟨fun _ => hk, fun hd1 => ⟨⟨0, Nat.zero_le _, rfl, rfl⟩, fun x hx => ⟨fun hlt => ?_, fun hge => ?_⟩⟩⟩⟩⟩⟩
  · have : stamps t ts = [] := by unfold stamps; rw [if_neg h]
    rw [this]; rfl
  · obtain ⟨hc, hl, ha⟩ := hchk_ok h
    have g := good_of hc
    have hlen := g.len
    have htx := time_at ha x
    rw [lateL_len ts d hx]
    exact ⟨by omega, by omega, by omega, by omega, by omega, x + 1, by omega, by omega, by omega, lateL_step ts d (by omega)⟩
  · obtain ⟨hc, hl, ha⟩ := hchk_ok h
    have g := good_of hc
    have hlen := g.len
    have hx' : x = ts.length := by omega
    subst hx'
    have hll := lateL_len ts d hx
    refine ⟨fun hbad => ⟨⟨0, ⟨Nat.zero_le _, fun j hj => by omega⟩, rfl⟩, fun y ⟨hy, hy2⟩ => ⟨fun hlt => ?_, fun hge2 => ?_⟩⟩, fun hgood => ⟨fun hne => ?_, fun heq => ⟨⟨0, Nat.zero_le _, rfl⟩, fun y hy => ⟨fun hlt => ?_, fun _ => hk⟩⟩⟩⟩
    · rw [hll] at hlt
      rw [hll, lateL_at ts d (by omega) hx]
      refine ⟨by omega, by omega, fun _ => hk, fun hle => ⟨by omega, y + 1, ⟨by omega, fun j hj => ?_⟩, by omega, by omega⟩⟩
      by_cases hjy : j = y
      · rw [hjy]; omega
      · exact hy2 j (by omega)
    · exfalso
      rw [hll] at hge2
      apply hbad
      unfold hchk
      rw [if_pos hc, if_pos (by omega), if_pos]
      rw [List.all_eq_true]
      intro n hn
      obtain ⟨j, hj⟩ := List.getElem?_of_mem hn
      have hjl : j < ts.length := by
        have := (List.getElem?_eq_some_iff.1 hj).1
        omega
      have hat := lateL_at ts d hjl hx
      rw [List.getD_eq_getElem?_getD, hj] at hat
      have h1 := hy2 j (by omega)
      have h2 := time_at ha j
      simp only [Option.getD_some] at hat
      simp only [timeB, inB, Bool.and_eq_true, decide_eq_true_eq]
      omega
    · exfalso
      apply hne
      unfold stamps
      rw [if_pos h, if_pos hgood, (sst_len _ _ _).1, (sst_len _ _ _).1]
    · have e1 : stamps t ts = (sst t.2.1 ts t.2.1.length).1 := by unfold stamps; rw [if_pos h]
      have e2 : stamps t (lateL ts d ts.length) = (sst t.2.1 (lateL ts d ts.length) t.2.1.length).1 := by unfold stamps; rw [if_pos hgood]
      have s1 : (stamps t ts).length = t.2.1.length := by rw [e1, (sst_len _ _ _).1]
      have s2 : (stamps t (lateL ts d ts.length)).length = t.2.1.length := by rw [e2, (sst_len _ _ _).1]
      rw [s1] at hlt
      have hsh := (sst_late (d := d) (by omega) t.2.1 (ts := ts) (us := lateL ts d ts.length) (fun j hj => lateL_at ts d (by omega) hx) (fun j _ => (time_at ha j).1) (good_prc g) (good_frm g) t.2.1.length (Nat.le_refl _)).1 y (by omega)
      have htm := (sst_time t.2.1 ha t.2.1.length y).1
      rw [← e1, ← e2] at hsh
      rw [← e1] at htm
      obtain ⟨q0, q1, q2⟩ := hsh
      refine ⟨⟨by omega, by omega, by omega, by omega, by omega, fun _ => ⟨by omega, by omega, by omega, by omega⟩⟩, fun hb => ?_, fun _ => ⟨by omega, y + 1, by omega, by omega, by omega⟩⟩
      simp only [Bool.or_eq_true, Bool.not_eq_true', decide_eq_false_iff_not] at hb
      exact absurd hb (by rintro (h | h) <;> exact h (by assumption))

theorem okLate : PlainOk Try.prog 5 (cdet [tTr, .sl I, I] (fun _ _ _ => True) (fun _ _ _ => [⟨.bool, true⟩])) := by
  refine plain_of (CxOk.mk' Eh_ok (by kernel_rfl) mixed (GOk.cons okHFact Try.func16 (by kernel_rfl) (by kernel_rfl) (GOk.cons okStamps Try.func17 (by kernel_rfl) (by kernel_rfl) GOk.nil))) Try.func5 (c := Try.f5.body.getD .skip) (rvs := [(.tmp 6, .bool)]) (by kernel_rfl) (by kernel_rfl) (by kernel_rfl) ?_
  intro ds k ⟨hp, hk⟩ hwf
  obtain ⟨t, ts, d, rfl, -⟩ := dest3 hp
  exact ⟨anLate t ts d, late_vc t ts d k hk⟩
end Go.Proofs.Ytgbpjjinhjikeaa
