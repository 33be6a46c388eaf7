/- Own texts, merged: BOk3, BL, RV, ROk, ROk2, SLaw. -/
import Derived.Test.YtgcliogognkdkaaDoorMSRowZ1
/- Bags and counters: what is added, dropped, joined, counted: the functions keep their contracts. -/
namespace Go.Proofs.YtgcliogognkdkaaDoor
open Go.Vc

theorem chk_parts {b : Bag} (h : chkB b = 0) : tagsE b.1 = 0 ∧ tagsE b.2.1 = 0 ∧ goneF b b.2.1.length 0 = 0 := by
  unfold chkB at h
  by_cases h1 : tagsE b.1 = 0
  · rw [if_pos h1] at h
    by_cases h2 : tagsE b.2.1 = 0
    · rw [if_pos h2] at h; exact ⟨h1, h2, h⟩
    · rw [if_neg h2] at h; exact absurd h h2
  · rw [if_neg h1] at h; exact absurd h h1
theorem tags_len {l : List Tag} (h : tagsE l = 0) : l.length ≤ 24 := by
  unfold tagsE at h
  by_cases h1 : 24 < l.length
  · rw [if_pos h1] at h; cases h
  · omega
theorem chk_len {b : Bag} (h : chkB b = 0) : b.1.length ≤ 24 ∧ b.2.1.length ≤ 24 := ⟨tags_len (chk_parts h).1, tags_len (chk_parts h).2.1⟩
theorem tagsF_all {l : List Tag} : ∀ (f i : Nat), tagsF l f i = 0 → ∀ j, i ≤ j → j < i + f → tagE l j = 0
  | 0, i, _, j, h1, h2 => by omega
  | f + 1, i, h, j, h1, h2 => by
    unfold tagsF at h
    by_cases he : tagE l i = 0
    · rw [if_pos he] at h
      by_cases hj : j = i
      · subst hj; exact he
      · exact tagsF_all f (i + 1) h j (by omega) (by omega)
    · rw [if_neg he] at h; exact absurd h he
theorem tags_all {l : List Tag} (h : tagsE l = 0) : ∀ j, j < l.length → tagIn (l.getD j tag0) = true ∧ (0 < j → ltT (l.getD (j - 1) tag0) (l.getD j tag0)) := by
  intro j hj
  have hl := tags_len h
  have h1 : tagsF l l.length 0 = 0 := by unfold tagsE at h; rw [if_neg (by omega)] at h; exact h
  have := tagsF_all l.length 0 h1 j (Nat.zero_le _) (by omega)
  unfold tagE at this
  cases hq : tagIn (l.getD j tag0) with
  | false => rw [if_pos hq] at this; cases this
  | true =>
    rw [if_neg (by rw [hq]; decide)] at this
    refine ⟨rfl, fun h0 => ?_⟩
    cases Classical.em (0 ≤ cmpT (l.getD (j - 1) tag0) (l.getD j tag0)) with
    | inl h => rw [if_pos ⟨h0, h⟩] at this; cases this
    | inr h => exact cmpT_lt.1 (by omega)
theorem tagIn_iff {t : Tag} : tagIn t = true ↔ (0 ≤ t.1 ∧ t.1 ≤ 9) ∧ (0 ≤ t.2.1 ∧ t.2.1 ≤ 4) ∧ 1 ≤ t.2.2.1 ∧ t.2.2.1 ≤ 1000000 := by
  unfold tagIn inB
  simp only [Bool.and_eq_true, decide_eq_true_eq]
theorem maxC_in {l : List Tag} (h : tagsE l = 0) (node : Int) : ∀ i, i ≤ l.length → 0 ≤ maxC l node i ∧ maxC l node i ≤ 1000000
  | 0, _ => by simp [maxC]
  | i + 1, hi => by
    have := maxC_in h node i (by omega)
    have ht := tagIn_iff.1 (tags_all h i (by omega)).1
    unfold maxC
    split <;> omega

theorem add_vc (b : Bag) (e n : Int) (k : List Dat → Prop) (hk : k [⟨tB, addB b e n⟩, ⟨tErr, addE b e n⟩]) :
    vcF ⟨Ebw [6], [(12, cCheck), (33, cWithin)], [], [], [(40, oClone), (41, oSorted)]⟩ (anAdd b n) (Tryd.f20.body.getD .skip) Tryd.f20.ntmps [(.cell 6 25, tB), (.tmp 7, tErr)] [⟨tB, b⟩, ⟨I, e⟩, ⟨I, n⟩] k := by
  rw [vcAdd]
  have ret : ∀ x : Int, addE b e n = x → x ≠ 0 → k [⟨tB, bag0⟩, ⟨tErr, x⟩] := by
    rintro _ rfl h0
    have : addB b e n = bag0 := by unfold addB; rw [if_neg h0]
    rw [this] at hk; exact hk
  simp only [decide_eq_true_eq, decide_eq_false_iff_not, true_and, and_true, Bool.not_eq_true', Bool.not_eq_false', Int.toNat_natCast, inK_i64]
  refine ⟨fun h => ret _ (by unfold addE; rw [if_neg h]) h, fun h => ⟨fun h1 => ⟨by decide, ret _ ?_ (by decide)⟩, fun h1 => ⟨fun h2 => ⟨by decide, ret _ ?_ (by decide)⟩, fun h2 => ?_⟩⟩⟩
  · unfold addE; rw [if_pos h, h1]; rfl
  · unfold addE; rw [if_pos h, h1, h2]; rfl
  · obtain ⟨hl1, hl2⟩ := chk_len h
    have hin : (inB e 0 9 && inB n 0 4) = true := by rw [h1, h2]; rfl
    have hcm := maxC_in (chk_parts h).1 n
    refine ⟨⟨0, ⟨Nat.zero_le _, h⟩, rfl, rfl⟩, fun x ⟨hx, _⟩ => ⟨fun hlt => ⟨by omega, hlt, fun he => ?_, fun hne => ?_⟩, fun hge => ?_⟩⟩
    · refine ⟨by omega, x + 1, ⟨by omega, h⟩, by omega, ?_, by omega⟩
      rw [maxC, if_pos (show (b.1.getD x tag0).2.1 = n from he)]; rfl
    · refine ⟨by omega, x + 1, ⟨by omega, h⟩, by omega, ?_, by omega⟩
      rw [maxC, if_neg (show ¬ (b.1.getD x tag0).2.1 = n from hne)]
    · have hxe : x = b.1.length := by omega
      subst hxe
      have hc := hcm b.1.length (Nat.le_refl _)
      refine ⟨fun h24 => ⟨by decide, ret _ ?_ (by decide)⟩, fun h24 => ⟨fun hm => ⟨by decide, ret _ ?_ (by decide)⟩, fun hm => ?_⟩⟩
      · unfold addE; rw [if_pos h, if_pos hin, if_pos (.inl (by omega))]
      · unfold addE; rw [if_pos h, if_pos hin, if_pos (.inr hm)]
      · have hE : addE b e n = 0 := by unfold addE; rw [if_pos h, if_pos hin, if_neg (by rintro (c | c) <;> omega)]
        have hB : addB b e n = (srt (b.1 ++ [(e, n, maxC b.1 n b.1.length + 1, ())]), b.2.1, ()) := by unfold addB; rw [if_pos hE]
        rw [hE, hB] at hk
        have e1 : ((List.replicate 1 ((0 : Int), (0 : Int), (0 : Int), ())).set 0 (e, n, maxC b.1 n b.1.length + 1, ())) = [(e, n, maxC b.1 n b.1.length + 1, ())] := rfl
        rw [e1]
        have e2 : (List.append b.1 [(e, n, maxC b.1 n b.1.length + 1, ())]).length = b.1.length + 1 := by show (b.1 ++ _).length = _; simp
        rw [e2]
        refine ⟨by omega, by omega, by omega, by simp only [List.length_cons, List.length_nil]; omega, by omega, by omega, hk⟩

theorem okAdd : PlainOk Tryd.prog [] 20 cAdd := by
  refine plain_of (CxOk.mk' (Ebw_ok [6]) (by kernel_rfl) mixed (gl := []) (GOk.cons okCheck Tryd.func12 (by kernel_rfl) (by kernel_rfl) (GOk.cons okWithin Tryd.func33 (by kernel_rfl) (by kernel_rfl) GOk.nil)) (GoOk.cons ownClone Tryd.func40 (by kernel_rfl) (by kernel_rfl) (GoOk.cons ownSorted Tryd.func41 (by kernel_rfl) (by kernel_rfl) GoOk.nil)) noIt) Tryd.func20 (c := Tryd.f20.body.getD .skip) (rvs := [(.cell 6 25, tB), (.tmp 7, tErr)]) (by kernel_rfl) (by kernel_rfl) (by kernel_rfl) ?_
  intro ds k ⟨hp, hk⟩ hwf
  obtain ⟨b, e, n, rfl, -⟩ := dest3 hp
  exact ⟨anAdd b n, add_vc b e n k hk⟩

theorem ofE_len (l : List Tag) (e : Int) : (ofE l e).length ≤ l.length := List.length_filter_le _ _
theorem ofE_step (l : List Tag) (e : Int) {x : Nat} (h : x < l.length) : ofE (l.take (x + 1)) e = ofE (l.take x) e ++ (if (l.getD x tag0).1 = e then [l.getD x tag0] else []) := by
  unfold ofE
  rw [List.take_succ_eq_append_getElem h, List.filter_append, List.getD_eq_getElem?_getD, List.getElem?_eq_getElem h]
  congr 1
  by_cases hq : (l[x]).1 = e <;> simp [hq]

theorem drop_vc (b : Bag) (e : Int) (k : List Dat → Prop) (hk : k [⟨tB, dropB b e⟩, ⟨tErr, dropE b e⟩]) :
    vcF ⟨Ebw [4, 7], [(12, cCheck), (33, cWithin)], [], [], [(40, oClone), (41, oSorted)]⟩ (anDrop b e) (Tryd.f16.body.getD .skip) Tryd.f16.ntmps [(.cell 4 25, tB), (.tmp 5, tErr)] [⟨tB, b⟩, ⟨I, e⟩] k := by
  rw [vcDrop]
  have ret : ∀ x : Int, dropE b e = x → x ≠ 0 → k [⟨tB, bag0⟩, ⟨tErr, x⟩] := by
    rintro _ rfl h0
    have : dropB b e = bag0 := by unfold dropB; rw [if_neg h0]
    rw [this] at hk; exact hk
  simp only [decide_eq_true_eq, decide_eq_false_iff_not, true_and, and_true, Bool.not_eq_true', Bool.not_eq_false', Int.toNat_natCast, inK_i64]
  refine ⟨fun h => ret _ (by unfold dropE; rw [if_neg h]) h, fun h => ⟨fun h1 => ⟨by decide, ret _ ?_ (by decide)⟩, fun h1 => ?_⟩⟩
  · unfold dropE; rw [if_pos h, h1]; rfl
  · have hE : dropE b e = 0 := by unfold dropE; rw [if_pos h, if_pos h1]
    obtain ⟨hl1, hl2⟩ := chk_len h
    have g1 : List.length b.1 ≤ 1000000000 := by omega
    have g2 : List.length b.2.1 ≤ 1000000000 := by omega
    have hB : dropB b e = (b.1, srt (b.2.1 ++ ofE b.1 e), ()) := by unfold dropB; rw [if_pos hE]
    rw [hE, hB] at hk
    simp only [hE, g1, g2, true_and, and_true, exists_const, forall_const, eq_self, eqS]
    refine ⟨⟨0, Nat.zero_le _, rfl, (List.append_nil _).symm⟩, fun x hx => ⟨fun hlt => ⟨by omega, hlt, fun he => ?_, fun hne => ?_⟩, fun hge => ?_⟩⟩
    · have hxl : x < b.1.length := by omega
      have hst := ofE_step b.1 e hxl
      rw [if_pos (show (b.1.getD x tag0).1 = e from he)] at hst
      have e1 : ((List.replicate 1 ((0 : Int), (0 : Int), (0 : Int), ())).set 0 (List.getD b.1 x (0, 0, 0, ()))) = [b.1.getD x tag0] := rfl
      have h3 := ofE_len (b.1.take x) e
      rw [List.length_take] at h3
      refine ⟨by rw [e1, List.length_append]; simp only [List.length_cons, List.length_nil]; omega, by omega, x + 1, by omega, by omega, by omega, ?_⟩
      rw [e1, hst]
      show (b.2.1 ++ ofE (b.1.take x) e) ++ [b.1.getD x tag0] = _
      rw [List.append_assoc]
    · have hxl : x < b.1.length := by omega
      have hst := ofE_step b.1 e hxl
      rw [if_neg (show ¬ (b.1.getD x tag0).1 = e from hne), List.append_nil] at hst
      exact ⟨by omega, x + 1, by omega, by omega, by omega, by rw [hst]⟩
    · have hxe : x = b.1.length := by omega
      subst hxe
      have h3 := ofE_len (b.1.take b.1.length) e
      rw [List.length_take] at h3
      refine ⟨by rw [List.length_append]; omega, ?_⟩
      rw [List.take_length]; exact hk

theorem okDrop : PlainOk Tryd.prog [] 16 cDrop := by
  refine plain_of (CxOk.mk' (Ebw_ok [4, 7]) (by kernel_rfl) mixed (gl := []) (GOk.cons okCheck Tryd.func12 (by kernel_rfl) (by kernel_rfl) (GOk.cons okWithin Tryd.func33 (by kernel_rfl) (by kernel_rfl) GOk.nil)) (GoOk.cons ownClone Tryd.func40 (by kernel_rfl) (by kernel_rfl) (GoOk.cons ownSorted Tryd.func41 (by kernel_rfl) (by kernel_rfl) GoOk.nil)) noIt) Tryd.func16 (c := Tryd.f16.body.getD .skip) (rvs := [(.cell 4 25, tB), (.tmp 5, tErr)]) (by kernel_rfl) (by kernel_rfl) (by kernel_rfl) ?_
  intro ds k ⟨hp, hk⟩ hwf
  obtain ⟨b, e, rfl, -⟩ := dest2 hp
  exact ⟨anDrop b e, drop_vc b e k hk⟩

theorem join_vc (a b : Bag) (k : List Dat → Prop) (hk : k [⟨tB, joinB a b⟩, ⟨tErr, joinE a b⟩]) :
    vcF ⟨Ebw [4, 8], [(12, cCheck)], [], [], [(44, oConcat), (41, oSorted)]⟩ (anJoin a b) (Tryd.f22.body.getD .skip) Tryd.f22.ntmps [(.cell 4 25, tB), (.tmp 5, tErr)] [⟨tB, a⟩, ⟨tB, b⟩] k := by
  rw [vcJoin]
  have ret : ∀ x : Int, joinE a b = x → x ≠ 0 → k [⟨tB, bag0⟩, ⟨tErr, x⟩] := by
    rintro _ rfl h0
    have : joinB a b = bag0 := by unfold joinB; rw [if_neg h0]
    rw [this] at hk; exact hk
  have e1 : ∀ x y : List Tag, ((List.replicate 2 ([] : List Tag)).set 0 x).set 1 y = [x, y] := fun _ _ => rfl
  simp only [decide_eq_true_eq, decide_eq_false_iff_not, true_and, and_true, Bool.not_eq_true', Bool.not_eq_false', Int.toNat_natCast, inK_i64, e1]
  refine ⟨fun h => ret _ (by unfold joinE; rw [if_neg h]) h, fun h => ⟨fun h1 => ret _ (by unfold joinE; rw [if_pos h, if_neg h1]) h1, fun h1 => ?_⟩⟩
  obtain ⟨hl1, hl2⟩ := chk_len h
  obtain ⟨hl3, hl4⟩ := chk_len h1
  have f1 : [a.1, b.1].flatten = a.1 ++ b.1 := by simp
  have f2 : [a.2.1, b.2.1].flatten = a.2.1 ++ b.2.1 := by simp
  have s1 : sumL [a.1, b.1] [a.1, b.1].length ≤ 1000000000 := by unfold sumL; simp; omega
  have s2 : sumL [a.2.1, b.2.1] [a.2.1, b.2.1].length ≤ 1000000000 := by unfold sumL; simp; omega
  have g1 : (a.1 ++ b.1).length ≤ 1000000000 := by rw [List.length_append]; omega
  have g2 : (a.2.1 ++ b.2.1).length ≤ 1000000000 := by rw [List.length_append]; omega
  simp only [f1, f2, s1, s2, g1, g2, h, h1, true_and, and_true, exists_const, forall_const, eq_self, eqS, dite_true]
  refine ⟨fun h24 => ⟨by decide, ret _ ?_ (by decide)⟩, fun h24 => ?_⟩
  · unfold joinE; rw [if_pos h, if_pos h1, if_pos (by omega)]
  · have hE : joinE a b = 0 := by unfold joinE; rw [if_pos h, if_pos h1, if_neg (by omega)]
    have hB : joinB a b = (srt (a.1 ++ b.1), srt (a.2.1 ++ b.2.1), ()) := by unfold joinB; rw [if_pos hE]
    rw [hE, hB] at hk; exact hk

theorem okJoin : PlainOk Tryd.prog [] 22 cJoin := by
  refine plain_of (CxOk.mk' (Ebw_ok [4, 8]) (by kernel_rfl) mixed (gl := []) (GOk.cons okCheck Tryd.func12 (by kernel_rfl) (by kernel_rfl) GOk.nil) (GoOk.cons ownConcat Tryd.func44 (by kernel_rfl) (by kernel_rfl) (GoOk.cons ownSorted Tryd.func41 (by kernel_rfl) (by kernel_rfl) GoOk.nil)) noIt) Tryd.func22 (c := Tryd.f22.body.getD .skip) (rvs := [(.cell 4 25, tB), (.tmp 5, tErr)]) (by kernel_rfl) (by kernel_rfl) (by kernel_rfl) ?_
  intro ds k ⟨hp, hk⟩ hwf
  obtain ⟨a, b, rfl, -⟩ := dest2 hp
  exact ⟨anJoin a b, join_vc a b k hk⟩

theorem elemsU_len (b : Bag) : ∀ i, (elemsU b i).length ≤ i
  | 0 => Nat.le_refl _
  | i + 1 => by
    have := elemsU_len b i
    unfold elemsU
    split
    · rw [List.length_append]; simp; omega
    · omega
theorem elems_vc (b : Bag) (k : List Dat → Prop) (hk : k [⟨.sl I, elems b⟩, ⟨tErr, chkB b⟩]) :
    vcF ⟨Eb, [(12, cCheck), (38, cHasT), (39, cHasI)], [], [], []⟩ (anElems b) (Tryd.f14.body.getD .skip) Tryd.f14.ntmps [(.tmp 2, .sl I), (.tmp 3, tErr)] [⟨tB, b⟩] k := by
  rw [vcElems]
  simp only [decide_eq_true_eq, decide_eq_false_iff_not, true_and, and_true, Bool.not_eq_true', Bool.not_eq_false', Int.toNat_natCast, inK_i64]
  refine ⟨fun h => ?_, fun h => ?_⟩
  · have : elems b = [] := by unfold elems; rw [if_neg h]
    rw [this] at hk; exact hk
  · obtain ⟨hl1, hl2⟩ := chk_len h
    have hR : elems b = elemsU b b.1.length := by unfold elems; rw [if_pos h]
    rw [hR, h] at hk
    have e1 : ∀ y : Int, (List.replicate 1 (0 : Int)).set 0 y = [y] := fun _ => rfl
    simp only [h, and_true, e1]
    have ea : ∀ y : Int, ∀ l : List Int, List.append l [y] = l ++ [y] := fun _ _ => rfl
    simp only [ea]
    refine ⟨⟨0, Nat.zero_le _, rfl, rfl⟩, fun x hx => ⟨fun hlt => ?_, fun hge => ?_⟩⟩
    · have hxl : x < b.1.length := by omega
      have hn := elemsU_len b x
      refine ⟨by omega, hlt, fun h1 => ⟨fun h2 => ⟨by simp only [List.length_cons, List.length_nil]; omega, by omega, x + 1, by omega, by omega, by omega, ?_⟩, fun h2 => ⟨by omega, x + 1, by omega, by omega, by omega, ?_⟩⟩, fun h1 => ⟨by omega, x + 1, by omega, by omega, by omega, ?_⟩⟩
      · rw [elemsU, if_pos]; · rfl
        rw [show hasT b.2.1 (b.1.getD x tag0) = false from h1, show hasI (elemsU b x) (b.1.getD x tag0).1 = false from h2]; rfl
      · rw [elemsU, if_neg]
        rw [show hasI (elemsU b x) (b.1.getD x tag0).1 = true from h2]; simp
      · rw [elemsU, if_neg]
        rw [show hasT b.2.1 (b.1.getD x tag0) = true from h1]; simp
    · have hxe : x = b.1.length := by omega
      subst hxe; exact hk

theorem okElems : PlainOk Tryd.prog [] 14 cElems := by
  refine plain_of (CxOk.mk' Eb_ok (by kernel_rfl) mixed (gl := []) (GOk.cons okCheck Tryd.func12 (by kernel_rfl) (by kernel_rfl) (GOk.cons okHasT Tryd.func38 (by kernel_rfl) (by kernel_rfl) (GOk.cons okHasI Tryd.func39 (by kernel_rfl) (by kernel_rfl) GOk.nil))) GoOk.nil noIt) Tryd.func14 (c := Tryd.f14.body.getD .skip) (rvs := [(.tmp 2, .sl I), (.tmp 3, tErr)]) (by kernel_rfl) (by kernel_rfl) (by kernel_rfl) ?_
  intro ds k ⟨hp, hk⟩ hwf
  obtain ⟨b, rfl, -⟩ := dest1 hp
  exact ⟨anElems b, elems_vc b k hk⟩

theorem cnt_len {l : List Int} (h : cntE l = 0) : 1 ≤ l.length ∧ l.length ≤ 5 := by
  unfold cntE at h
  by_cases h1 : l.length = 0
  · rw [if_pos h1] at h; cases h
  · rw [if_neg h1] at h
    by_cases h2 : 5 < l.length
    · rw [if_pos h2] at h; cases h
    · omega
theorem cntF_all {l : List Int} : ∀ (f i : Nat), cntF l f i = 0 → ∀ j, i ≤ j → j < i + f → 0 ≤ l.getD j 0 ∧ l.getD j 0 ≤ 1000000
  | 0, i, _, j, h1, h2 => by omega
  | f + 1, i, h, j, h1, h2 => by
    unfold cntF at h
    by_cases he : inB (l.getD i 0) 0 1000000 = true
    · rw [if_pos he] at h
      by_cases hj : j = i
      · subst hj
        unfold inB at he
        simpa [Bool.and_eq_true] using he
      · exact cntF_all f (i + 1) h j (by omega) (by omega)
    · rw [if_neg he] at h; cases h
theorem cnt_all {l : List Int} (h : cntE l = 0) : ∀ j, j < l.length → 0 ≤ l.getD j 0 ∧ l.getD j 0 ≤ 1000000 := by
  intro j hj
  have := cnt_len h
  have h1 : cntF l l.length 0 = 0 := by unfold cntE at h; rw [if_neg (by omega), if_neg (by omega)] at h; exact h
  exact cntF_all l.length 0 h1 j (Nat.zero_le _) (by omega)

theorem up_vc (v : List Int) (n : Int) (hl : v.length ≤ maxLen) (k : List Dat → Prop) (hk : k [⟨.sl I, upR v n⟩, ⟨tErr, upE v n⟩]) :
    vcF ⟨Eb, [(7, cCounts), (33, cWithin)], [], [], [(34, oCloneI)]⟩ [joinAll] (Tryd.f8.body.getD .skip) Tryd.f8.ntmps [(.tmp 4, .sl I), (.tmp 5, tErr)] [⟨.sl I, v⟩, ⟨I, n⟩] k := by
  rw [vcUp]
  have hml : maxLen ≤ 9223372036854775807 := by decide
  have ret : ∀ x : Int, upE v n = x → x ≠ 0 → k [⟨.sl I, ([] : List Int)⟩, ⟨tErr, x⟩] := by
    rintro _ rfl h0
    have : upR v n = [] := by unfold upR; rw [if_neg h0]
    rw [this] at hk; exact hk
  simp only [decide_eq_true_eq, decide_eq_false_iff_not, true_and, and_true, Bool.not_eq_true', Bool.not_eq_false', Int.toNat_natCast, inK_i64]
  refine ⟨fun h => ret _ (by unfold upE; rw [if_neg h]) h, fun h => ?_⟩
  have hlen := cnt_len h
  refine ⟨by omega, fun h1 => ⟨by decide, ret _ (by unfold upE; rw [if_pos h, if_neg (by rw [h1]; decide)]) (by decide)⟩, fun h1 => ?_⟩
  have hn : 0 ≤ n ∧ n < (v.length : Int) := by
    unfold inB at h1
    simp only [Bool.and_eq_true, decide_eq_true_eq] at h1; omega
  have hv := cnt_all h n.toNat (by omega)
  refine ⟨hn.1, hn.2, fun h2 => ⟨by decide, ret _ (by unfold upE; rw [if_pos h, if_pos h1, if_pos h2]) (by decide)⟩, fun h2 => ⟨by omega, hn.1, hn.2, by omega, hn.1, by omega, ?_⟩⟩
  have hE : upE v n = 0 := by unfold upE; rw [if_pos h, if_pos h1, if_neg h2]
  have hR : upR v n = v.set n.toNat (v.getD n.toNat 0 + 1) := by unfold upR; rw [if_pos hE]
  rw [hE, hR] at hk; exact hk

theorem okUp : PlainOk Tryd.prog [] 8 cUp := by
  refine plain_of (CxOk.mk' Eb_ok (by kernel_rfl) mixed (gl := []) (GOk.cons okCounts Tryd.func7 (by kernel_rfl) (by kernel_rfl) (GOk.cons okWithin Tryd.func33 (by kernel_rfl) (by kernel_rfl) GOk.nil)) (GoOk.cons ownCloneI Tryd.func34 (by kernel_rfl) (by kernel_rfl) GoOk.nil) noIt) Tryd.func8 (c := Tryd.f8.body.getD .skip) (rvs := [(.tmp 4, .sl I), (.tmp 5, tErr)]) (by kernel_rfl) (by kernel_rfl) (by kernel_rfl) ?_
  intro ds k ⟨hp, hk⟩ hwf
  obtain ⟨v, n, rfl, -⟩ := dest2 hp
  exact ⟨[joinAll], up_vc v n (wf2 hwf).1.1 k hk⟩

theorem mostU_len (v w : List Int) : ∀ i, (mostU v w i).length = v.length
  | 0 => rfl
  | i + 1 => by rw [mostU, List.length_set]; exact mostU_len v w i
theorem most_vc (v w : List Int) (hl : v.length ≤ maxLen) (k : List Dat → Prop) (hk : k [⟨.sl I, mostR v w⟩, ⟨tErr, mostE v w⟩]) :
    vcF ⟨Eb, [(7, cCounts)], [], [], [(34, oCloneI)]⟩ (anMost v w) (Tryd.f10.body.getD .skip) Tryd.f10.ntmps [(.tmp 4, .sl I), (.tmp 5, tErr)] [⟨.sl I, v⟩, ⟨.sl I, w⟩] k := by
  rw [vcMost]
  have hml : maxLen ≤ 9223372036854775807 := by decide
  have ret : ∀ x : Int, mostE v w = x → x ≠ 0 → k [⟨.sl I, ([] : List Int)⟩, ⟨tErr, x⟩] := by
    rintro _ rfl h0
    have : mostR v w = [] := by unfold mostR; rw [if_neg h0]
    rw [this] at hk; exact hk
  simp only [decide_eq_true_eq, decide_eq_false_iff_not, true_and, and_true, Bool.not_eq_true', Bool.not_eq_false', Int.toNat_natCast, inK_i64, mostU_len]
  refine ⟨fun h => ret _ (by unfold mostE; rw [if_neg h]) h, fun h => ⟨fun h1 => ret _ (by unfold mostE; rw [if_pos h, if_neg h1]) h1, fun h1 => ⟨fun h2 => ⟨by decide, ret _ (by unfold mostE; rw [if_pos h, if_pos h1, if_neg (by omega)]) (by decide)⟩, fun h2 => ?_⟩⟩⟩
  have hE : mostE v w = 0 := by unfold mostE; rw [if_pos h, if_pos h1, if_pos (by omega)]
  have hlen := cnt_len h
  have hlw := cnt_len h1
  have hR : mostR v w = mostU v w w.length := by unfold mostR; rw [if_pos hE]
  rw [hE, hR] at hk
  simp only [hE, and_true]
  refine ⟨by omega, ⟨0, Nat.zero_le _, rfl, rfl⟩, fun x hx => ⟨fun hlt => ⟨by omega, hlt, by omega, by omega, by omega, by omega, by omega, x + 1, by omega, by omega, by omega, rfl⟩, fun hge => ?_⟩⟩
  have : x = w.length := by omega
  rw [this]; exact hk

theorem okMost : PlainOk Tryd.prog [] 10 cMost := by
  refine plain_of (CxOk.mk' Eb_ok (by kernel_rfl) mixed (gl := []) (GOk.cons okCounts Tryd.func7 (by kernel_rfl) (by kernel_rfl) GOk.nil) (GoOk.cons ownCloneI Tryd.func34 (by kernel_rfl) (by kernel_rfl) GoOk.nil) noIt) Tryd.func10 (c := Tryd.f10.body.getD .skip) (rvs := [(.tmp 4, .sl I), (.tmp 5, tErr)]) (by kernel_rfl) (by kernel_rfl) (by kernel_rfl) ?_
  intro ds k ⟨hp, hk⟩ hwf
  obtain ⟨v, w, rfl, -⟩ := dest2 hp
  exact ⟨anMost v w, most_vc v w (wf2 hwf).1.1 k hk⟩
end Go.Proofs.YtgcliogognkdkaaDoor

/- Bags and counters: plain laws. -/
namespace Go.Proofs.YtgcliogognkdkaaDoor
open Go.Vc

structure GoodL (l : List Tag) : Prop where
  len : l.length ≤ 24
  inn : ∀ t ∈ l, tagIn t = true
  ss : SS l
theorem ss_of_steps : ∀ {l : List Tag}, (∀ j, 0 < j → j < l.length → ltT (l.getD (j - 1) tag0) (l.getD j tag0)) → SS l
  | [], _ => List.Pairwise.nil
  | [x], _ => by simp [SS]
  | x :: y :: l, h => by
    have h1 : SS (y :: l) := ss_of_steps fun j h0 hj => by
      have := h (j + 1) (by omega) (by simpa using hj)
      have e1 : (x :: y :: l).getD (j + 1 - 1) tag0 = (y :: l).getD (j - 1) tag0 := by
        rw [show j + 1 - 1 = (j - 1) + 1 by omega]; rfl
      rw [e1] at this
      exact this
    have h2 : ltT x y := h 1 (by omega) (by simp)
    refine List.pairwise_cons.2 ⟨fun u hu => ?_, h1⟩
    rcases List.mem_cons.1 hu with e | e
    · subst e; exact h2
    · exact ltT_trans h2 ((List.pairwise_cons.1 h1).1 u e)
theorem getD_mem {l : List Tag} {j : Nat} (h : j < l.length) : l.getD j tag0 ∈ l := by
  rw [List.getD_eq_getElem?_getD, List.getElem?_eq_getElem h]; exact List.getElem_mem h
theorem mem_getD {l : List Tag} {t : Tag} (h : t ∈ l) : ∃ j, j < l.length ∧ l.getD j tag0 = t := by
  obtain ⟨j, hj⟩ := List.getElem?_of_mem h
  have := (List.getElem?_eq_some_iff.1 hj).1
  exact ⟨j, this, by rw [List.getD_eq_getElem?_getD, hj]; rfl⟩
theorem tagsF_zero {l : List Tag} : ∀ (f i : Nat), (∀ j, i ≤ j → j < i + f → tagE l j = 0) → tagsF l f i = 0
  | 0, _, _ => rfl
  | f + 1, i, h => by
    unfold tagsF
    rw [if_pos (h i (Nat.le_refl _) (by omega))]
    exact tagsF_zero f (i + 1) fun j h1 h2 => h j (by omega) (by omega)
theorem tagsE_iff {l : List Tag} : tagsE l = 0 ↔ GoodL l := by
  constructor
  · intro h
    have ha := tags_all h
    refine ⟨tags_len h, fun t ht => ?_, ss_of_steps fun j h0 hj => (ha j hj).2 h0⟩
    obtain ⟨j, hj, rfl⟩ := mem_getD ht
    exact (ha j hj).1
  · intro g
    unfold tagsE
    rw [if_neg (by have := g.len; omega)]
    refine tagsF_zero _ _ fun j _ hj => ?_
    have hj : j < l.length := by omega
    unfold tagE
    rw [if_neg (by rw [g.inn _ (getD_mem hj)]; decide), if_neg]
    rintro ⟨h0, h1⟩
    refine cmpT_ge.1 h1 ?_
    have := List.pairwise_iff_getElem.1 g.ss (j - 1) j (by omega) hj (by omega)
    rw [List.getD_eq_getElem?_getD, List.getD_eq_getElem?_getD, List.getElem?_eq_getElem hj, List.getElem?_eq_getElem (show j - 1 < l.length by omega)]
    exact this
theorem idxF_ge {l : List Tag} {t : Tag} : ∀ (f i : Nat), 0 ≤ idxF l t f i ↔ ∃ j, i ≤ j ∧ j < i + f ∧ l.getD j tag0 = t
  | 0, i => by simp [idxF]; omega
  | f + 1, i => by
    unfold idxF
    by_cases h : l.getD i tag0 = t
    · rw [if_pos h]
      exact ⟨fun _ => ⟨i, Nat.le_refl _, by omega, h⟩, fun _ => by omega⟩
    · rw [if_neg h, idxF_ge f (i + 1)]
      constructor
      · rintro ⟨j, h1, h2, h3⟩; exact ⟨j, by omega, by omega, h3⟩
      · rintro ⟨j, h1, h2, h3⟩
        by_cases hj : j = i
        · subst hj; exact absurd h3 h
        · exact ⟨j, by omega, by omega, h3⟩
theorem hasT_iff {l : List Tag} {t : Tag} : hasT l t = true ↔ t ∈ l := by
  unfold hasT idxI
  rw [decide_eq_true_eq, idxF_ge]
  constructor
  · rintro ⟨j, _, h2, h3⟩; rw [← h3]; exact getD_mem (by omega)
  · intro h
    obtain ⟨j, hj, e⟩ := mem_getD h
    exact ⟨j, Nat.zero_le _, by omega, e⟩
theorem idnF_ge {l : List Int} {t : Int} : ∀ (f i : Nat), 0 ≤ idnF l t f i ↔ ∃ j, i ≤ j ∧ j < i + f ∧ l.getD j 0 = t
  | 0, i => by simp [idnF]; omega
  | f + 1, i => by
    unfold idnF
    by_cases h : l.getD i 0 = t
    · rw [if_pos h]
      exact ⟨fun _ => ⟨i, Nat.le_refl _, by omega, h⟩, fun _ => by omega⟩
    · rw [if_neg h, idnF_ge f (i + 1)]
      constructor
      · rintro ⟨j, h1, h2, h3⟩; exact ⟨j, by omega, by omega, h3⟩
      · rintro ⟨j, h1, h2, h3⟩
        by_cases hj : j = i
        · subst hj; exact absurd h3 h
        · exact ⟨j, by omega, by omega, h3⟩
theorem hasI_iff {l : List Int} {t : Int} : hasI l t = true ↔ t ∈ l := by
  unfold hasI idnI
  rw [decide_eq_true_eq, idnF_ge]
  constructor
  · rintro ⟨j, _, h2, h3⟩
    rw [← h3, List.getD_eq_getElem?_getD, List.getElem?_eq_getElem (show j < l.length by omega)]; exact List.getElem_mem _
  · intro h
    obtain ⟨j, hj⟩ := List.getElem?_of_mem h
    have := (List.getElem?_eq_some_iff.1 hj).1
    exact ⟨j, Nat.zero_le _, by omega, by rw [List.getD_eq_getElem?_getD, hj]; rfl⟩
theorem goneF_iff {b : Bag} : ∀ (f i : Nat), goneF b f i = 0 ↔ ∀ j, i ≤ j → j < i + f → b.2.1.getD j tag0 ∈ b.1
  | 0, i => by simp [goneF]; omega
  | f + 1, i => by
    unfold goneF
    by_cases h : hasT b.1 (b.2.1.getD i tag0) = true
    · rw [if_pos h, goneF_iff f (i + 1)]
      constructor
      · intro h1 j h2 h3
        by_cases hj : j = i
        · subst hj; exact hasT_iff.1 h
        · exact h1 j (by omega) (by omega)
      · intro h1 j h2 h3; exact h1 j (by omega) (by omega)
    · rw [if_neg h]
      exact ⟨fun e => (by cases e), fun h1 => absurd (hasT_iff.2 (h1 i (Nat.le_refl _) (by omega))) h⟩
structure GoodB (b : Bag) : Prop where
  has : GoodL b.1
  gone : GoodL b.2.1
  sub : ∀ t ∈ b.2.1, t ∈ b.1
theorem chk_iff {b : Bag} : chkB b = 0 ↔ GoodB b := by
  constructor
  · intro h
    obtain ⟨h1, h2, h3⟩ := chk_parts h
    refine ⟨tagsE_iff.1 h1, tagsE_iff.1 h2, fun t ht => ?_⟩
    obtain ⟨j, hj, rfl⟩ := mem_getD ht
    exact (goneF_iff _ _).1 h3 j (Nat.zero_le _) (by omega)
  · intro g
    unfold chkB
    rw [if_pos (tagsE_iff.2 g.has), if_pos (tagsE_iff.2 g.gone)]
    exact (goneF_iff _ _).2 fun j _ hj => g.sub _ (getD_mem (by omega))
theorem ss_sub_len : ∀ {m l : List Tag}, SS l → SS m → (∀ t ∈ l, t ∈ m) → l.length ≤ m.length
  | _, [], _, _, _ => Nat.zero_le _
  | [], x :: l, _, _, h => absurd (h x (List.mem_cons_self ..)) (by simp)
  | y :: m, x :: l, hl, hm, h => by
    obtain ⟨hl1, hl2⟩ := List.pairwise_cons.1 hl
    obtain ⟨hm1, hm2⟩ := List.pairwise_cons.1 hm
    have key : ∀ t ∈ l, t ∈ m := by
      intro t ht
      rcases List.mem_cons.1 (h t (List.mem_cons_of_mem _ ht)) with e | e
      · subst e
        rcases List.mem_cons.1 (h x (List.mem_cons_self ..)) with e2 | e2
        · subst e2; exact absurd (hl1 _ ht) (ltT_irrefl _)
        · exact absurd (hl1 _ ht) (ltT_asymm (hm1 x e2))
      · exact e
    have := ss_sub_len hl2 hm2 key
    simp only [List.length_cons]; omega
theorem joinE_iff {a b : Bag} : joinE a b = 0 ↔ GoodB a ∧ GoodB b ∧ (srt (a.1 ++ b.1)).length ≤ 24 := by
  rw [← chk_iff, ← chk_iff]
  unfold joinE
  by_cases h1 : chkB a = 0
  · rw [if_pos h1]
    by_cases h2 : chkB b = 0
    · rw [if_pos h2]
      by_cases h3 : 24 < (srt (a.1 ++ b.1)).length
      · rw [if_pos h3]
        exact ⟨fun e => (by cases e), fun ⟨_, _, e⟩ => by omega⟩
      · rw [if_neg h3]
        exact ⟨fun _ => ⟨h1, h2, by omega⟩, fun _ => rfl⟩
    · rw [if_neg h2]
      exact ⟨fun e => absurd e h2, fun ⟨_, e, _⟩ => absurd e h2⟩
  · rw [if_neg h1]
    exact ⟨fun e => absurd e h1, fun ⟨e, _⟩ => absurd e h1⟩
theorem joinB_eq {a b : Bag} (h : joinE a b = 0) : joinB a b = (srt (a.1 ++ b.1), srt (a.2.1 ++ b.2.1), ()) := by unfold joinB; rw [if_pos h]
theorem goodL_srt {l : List Tag} (h : ∀ t ∈ l, tagIn t = true) (hl : (srt l).length ≤ 24) : GoodL (srt l) := ⟨hl, fun t ht => h t (mem_srt.1 ht), ss_srt l⟩
theorem join_good {a b : Bag} (h : joinE a b = 0) : GoodB (joinB a b) := by
  obtain ⟨ga, gb, hl⟩ := joinE_iff.1 h
  rw [joinB_eq h]
  have hsub : ∀ t ∈ srt (a.2.1 ++ b.2.1), t ∈ srt (a.1 ++ b.1) := fun t ht => by
    rw [mem_srt, List.mem_append] at ht ⊢
    exact ht.imp (ga.sub t) (gb.sub t)
  refine ⟨goodL_srt (fun t ht => (List.mem_append.1 ht).elim (ga.has.inn t) (gb.has.inn t)) hl, goodL_srt (fun t ht => (List.mem_append.1 ht).elim (ga.gone.inn t) (gb.gone.inn t)) ?_, hsub⟩
  have := ss_sub_len (ss_srt _) (ss_srt _) hsub
  omega
theorem srt_ext {l m : List Tag} (h : ∀ t, t ∈ l ↔ t ∈ m) : srt l = srt m := srt_eq (ss_srt m) fun t => mem_srt.trans (h t).symm
theorem srt_self {l : List Tag} (h : SS l) : srt l = l := srt_eq h fun _ => Iff.rfl

theorem join_comm {a b : Bag} : (joinE a b = 0 ↔ joinE b a = 0) ∧ (joinE a b = 0 → joinB a b = joinB b a) := by
  have e : srt (a.1 ++ b.1) = srt (b.1 ++ a.1) := srt_ext fun t => by simp [or_comm]
  have h : joinE a b = 0 ↔ joinE b a = 0 := by
    rw [joinE_iff, joinE_iff, e]
    exact ⟨fun ⟨x, y, z⟩ => ⟨y, x, z⟩, fun ⟨x, y, z⟩ => ⟨y, x, z⟩⟩
  refine ⟨h, fun hj => ?_⟩
  rw [joinB_eq hj, joinB_eq (h.1 hj), e]
  congr 2
  exact srt_ext fun t => by simp [or_comm]
theorem join_again {a b : Bag} (h : joinE a b = 0) : joinE (joinB a b) a = 0 ∧ joinB (joinB a b) a = joinB a b := by
  obtain ⟨ga, gb, hl⟩ := joinE_iff.1 h
  have hg := join_good h
  have e := joinB_eq h
  have e1 : srt ((joinB a b).1 ++ a.1) = (joinB a b).1 := by
    rw [e]
    exact srt_eq (ss_srt _) fun t => by simp [mem_srt]; exact fun h => .inl h
  have e2 : srt ((joinB a b).2.1 ++ a.2.1) = (joinB a b).2.1 := by
    rw [e]
    exact srt_eq (ss_srt _) fun t => by simp [mem_srt]; exact fun h => .inl h
  have h2 : joinE (joinB a b) a = 0 := joinE_iff.2 ⟨hg, ga, by rw [e1]; exact hg.has.len⟩
  refine ⟨h2, ?_⟩
  rw [joinB_eq h2, e1, e2]
theorem join_assoc {a b c : Bag} (h : joinE a b = 0) (h2 : joinE (joinB a b) c = 0) : joinE b c = 0 ∧ joinE a (joinB b c) = 0 ∧ joinB (joinB a b) c = joinB a (joinB b c) := by
  obtain ⟨ga, gb, hl⟩ := joinE_iff.1 h
  obtain ⟨_, gc, hl2⟩ := joinE_iff.1 h2
  have e := joinB_eq h
  have h3 : joinE b c = 0 := by
    refine joinE_iff.2 ⟨gb, gc, Nat.le_trans (ss_sub_len (ss_srt _) (ss_srt _) fun t ht => ?_) hl2⟩
    rw [e]
    rw [mem_srt, List.mem_append] at ht ⊢
    rcases ht with ht | ht
    · exact .inl (mem_srt.2 (List.mem_append.2 (.inr ht)))
    · exact .inr ht
  have e3 := joinB_eq h3
  have k1 : srt ((joinB a b).1 ++ c.1) = srt (a.1 ++ (joinB b c).1) := by
    rw [e, e3]; exact srt_ext fun t => by simp [mem_srt, or_assoc]
  have k2 : srt ((joinB a b).2.1 ++ c.2.1) = srt (a.2.1 ++ (joinB b c).2.1) := by
    rw [e, e3]; exact srt_ext fun t => by simp [mem_srt, or_assoc]
  have h4 : joinE a (joinB b c) = 0 := joinE_iff.2 ⟨ga, join_good h3, by rw [← k1]; exact hl2⟩
  refine ⟨h3, h4, ?_⟩
  rw [joinB_eq h2, joinB_eq h4, k1, k2]

/-! What is added, and dropped. -/
theorem elems_iff {b : Bag} (h : chkB b = 0) {e : Int} : e ∈ elems b ↔ ∃ t ∈ b.1, t ∉ b.2.1 ∧ t.1 = e := by
  unfold elems
  rw [if_pos h]
  have key : ∀ n, n ≤ b.1.length → (e ∈ elemsU b n ↔ ∃ t ∈ b.1.take n, t ∉ b.2.1 ∧ t.1 = e) := by
    intro n
    induction n with
    | zero => intro _; simp [elemsU]
    | succ n ih =>
      intro hn
      have ih := ih (by omega)
      have e1 : b.1.take (n + 1) = b.1.take n ++ [b.1.getD n tag0] := by
        rw [List.take_succ_eq_append_getElem (show n < b.1.length by omega), List.getD_eq_getElem?_getD, List.getElem?_eq_getElem (show n < b.1.length by omega)]; rfl
      rw [e1, elemsU]
      generalize b.1.getD n tag0 = x
      have hx : (∃ t ∈ b.1.take n ++ [x], t ∉ b.2.1 ∧ t.1 = e) ↔ (∃ t ∈ b.1.take n, t ∉ b.2.1 ∧ t.1 = e) ∨ (x ∉ b.2.1 ∧ x.1 = e) := by
        constructor
        · rintro ⟨t, ht, h2⟩
          rcases List.mem_append.1 ht with h | h
          · exact .inl ⟨t, h, h2⟩
          · rw [List.mem_singleton] at h; subst h; exact .inr h2
        · rintro (⟨t, ht, h2⟩ | h2)
          · exact ⟨t, List.mem_append.2 (.inl ht), h2⟩
          · exact ⟨x, List.mem_append.2 (.inr (List.mem_singleton.2 rfl)), h2⟩
      rw [hx, ← ih]
      cases h1 : hasT b.2.1 x with
      | true =>
        rw [if_neg (by simp)]
        have := hasT_iff.1 h1
        exact ⟨.inl, fun h => h.elim id fun h => absurd this h.1⟩
      | false =>
        have h1' : x ∉ b.2.1 := fun h => by rw [hasT_iff.2 h] at h1; cases h1
        cases h2 : hasI (elemsU b n) x.1 with
        | true =>
          rw [if_neg (by simp)]
          have := hasI_iff.1 h2
          exact ⟨.inl, fun h => h.elim id fun h => h.2 ▸ this⟩
        | false =>
          rw [if_pos (by rfl), List.mem_append, List.mem_singleton]
          exact ⟨fun h => h.imp id fun h => ⟨h1', h.symm⟩, fun h => h.imp id fun h => h.2.symm⟩
  rw [key _ (Nat.le_refl _), List.take_length]
theorem maxC_ge {l : List Tag} {node : Int} : ∀ n, n ≤ l.length → ∀ j, j < n → (l.getD j tag0).2.1 = node → (l.getD j tag0).2.2.1 ≤ maxC l node n
  | 0, _, j, hj, _ => by omega
  | n + 1, hn, j, hj, he => by
    unfold maxC
    by_cases hjn : j = n
    · subst hjn; rw [if_pos he]; omega
    · have := maxC_ge n (by omega) j (by omega) he
      split <;> omega
theorem addE_iff {b : Bag} {e n : Int} : addE b e n = 0 ↔ GoodB b ∧ (0 ≤ e ∧ e ≤ 9) ∧ (0 ≤ n ∧ n ≤ 4) ∧ b.1.length ≠ 24 ∧ maxC b.1 n b.1.length ≠ 1000000 := by
  rw [← chk_iff]
  unfold addE inB
  by_cases h1 : chkB b = 0
  · rw [if_pos h1]
    by_cases h2 : (decide (0 ≤ e) && decide (e ≤ 9) && (decide (0 ≤ n) && decide (n ≤ 4))) = true
    · rw [if_pos h2]
      simp only [Bool.and_eq_true, decide_eq_true_eq] at h2
      by_cases h3 : b.1.length = 24 ∨ maxC b.1 n b.1.length = 1000000
      · rw [if_pos h3]
        exact ⟨fun e => (by cases e), fun ⟨_, _, _, e1, e2⟩ => h3.elim (fun h => absurd h e1) (fun h => absurd h e2)⟩
      · rw [if_neg h3]
        exact ⟨fun _ => ⟨h1, h2.1, h2.2, fun h => h3 (.inl h), fun h => h3 (.inr h)⟩, fun _ => rfl⟩
    · rw [if_neg h2]
      simp only [Bool.and_eq_true, decide_eq_true_eq] at h2
      exact ⟨fun e => (by cases e), fun ⟨_, e1, e2, _⟩ => absurd ⟨e1, e2⟩ h2⟩
  · rw [if_neg h1]
    exact ⟨fun e => absurd e h1, fun ⟨e, _⟩ => absurd e h1⟩
theorem dropE_iff {b : Bag} {e : Int} : dropE b e = 0 ↔ GoodB b ∧ 0 ≤ e ∧ e ≤ 9 := by
  rw [← chk_iff]
  unfold dropE inB
  by_cases h1 : chkB b = 0
  · rw [if_pos h1]
    by_cases h2 : (decide (0 ≤ e) && decide (e ≤ 9)) = true
    · rw [if_pos h2]
      simp only [Bool.and_eq_true, decide_eq_true_eq] at h2
      exact ⟨fun _ => ⟨h1, h2⟩, fun _ => rfl⟩
    · rw [if_neg h2]
      simp only [Bool.and_eq_true, decide_eq_true_eq] at h2
      exact ⟨fun e => (by cases e), fun e => absurd e.2 h2⟩
  · rw [if_neg h1]
    exact ⟨fun e => absurd e h1, fun ⟨e, _⟩ => absurd e h1⟩
theorem adds {a : Bag} {e n : Int} (h : addE a e n = 0) :
    dropE a e = 0 ∧ chkB a = 0 ∧ chkB (addB a e n) = 0 ∧ chkB (dropB a e) = 0 ∧ joinE (addB a e n) (dropB a e) = 0 ∧ chkB (joinB (addB a e n) (dropB a e)) = 0 ∧
    e ∈ elems (addB a e n) ∧ e ∉ elems (dropB a e) ∧ e ∈ elems (joinB (addB a e n) (dropB a e)) ∧
    ∀ o, o ≠ e → (o ∈ elems (addB a e n) ↔ o ∈ elems a) ∧ (o ∈ elems (dropB a e) ↔ o ∈ elems a) ∧ (o ∈ elems (joinB (addB a e n) (dropB a e)) ↔ o ∈ elems a) := by
  obtain ⟨g, he, hn, hl, hm⟩ := addE_iff.1 h
  have hd : dropE a e = 0 := dropE_iff.2 ⟨g, he⟩
  have hc := chk_iff.2 g
  have hmi := maxC_in (tagsE_iff.2 g.has) n a.1.length (Nat.le_refl _)
  obtain ⟨T, hT⟩ : ∃ T : Tag, T = (e, n, maxC a.1 n a.1.length + 1, ()) := ⟨_, rfl⟩
  have eA : addB a e n = (srt (a.1 ++ [T]), a.2.1, ()) := by unfold addB; rw [if_pos h, hT]
  have eD : dropB a e = (a.1, srt (a.2.1 ++ ofE a.1 e), ()) := by unfold dropB; rw [if_pos hd]
  have hTa : T ∉ a.1 := by
    intro hm
    obtain ⟨j, hj, e⟩ := mem_getD hm
    have := maxC_ge (l := a.1) (node := n) a.1.length (Nat.le_refl _) j hj (by rw [e, hT])
    rw [e, hT] at this
    simp only at this; omega
  have hTin : tagIn T = true := by rw [tagIn_iff, hT]; simp only; omega
  have hTe : T.1 = e := by rw [hT]
  have hlen : a.1.length ≤ 23 := by have := g.has.len; omega
  have hlA : (srt (a.1 ++ [T])).length ≤ 24 := by
    have := srt_len (a.1 ++ [T])
    rw [List.length_append] at this
    simp only [List.length_cons, List.length_nil] at this; omega
  have hof : ∀ t, t ∈ ofE a.1 e ↔ t ∈ a.1 ∧ t.1 = e := fun t => by unfold ofE; simp
  have gA : GoodB (addB a e n) := by
    rw [eA]
    refine ⟨goodL_srt (fun t ht => ?_) hlA, g.gone, fun t ht => mem_srt.2 (List.mem_append.2 (.inl (g.sub t ht)))⟩
    rcases List.mem_append.1 ht with h | h
    · exact g.has.inn t h
    · rw [List.mem_singleton] at h; subst h; exact hTin
  have hsubD : ∀ t ∈ srt (a.2.1 ++ ofE a.1 e), t ∈ a.1 := fun t ht => by
    rw [mem_srt, List.mem_append, hof] at ht
    exact ht.elim (g.sub t) fun h => h.1
  have gD : GoodB (dropB a e) := by
    rw [eD]
    refine ⟨g.has, goodL_srt (fun t ht => ?_) ?_, hsubD⟩
    · rcases List.mem_append.1 ht with h | h
      · exact g.gone.inn t h
      · exact g.has.inn t ((hof t).1 h).1
    · have := ss_sub_len (ss_srt _) g.has.ss hsubD
      omega
  have hJ : joinE (addB a e n) (dropB a e) = 0 := by
    refine joinE_iff.2 ⟨gA, gD, Nat.le_trans (ss_sub_len (ss_srt _) (ss_srt (a.1 ++ [T])) fun t ht => ?_) hlA⟩
    rw [eA, eD] at ht
    rw [mem_srt, List.mem_append] at ht
    exact ht.elim id fun h => mem_srt.2 (List.mem_append.2 (.inl h))
  have eJ : joinB (addB a e n) (dropB a e) = (srt (srt (a.1 ++ [T]) ++ a.1), srt (a.2.1 ++ srt (a.2.1 ++ ofE a.1 e)), ()) := by rw [joinB_eq hJ, eA, eD]
  have gJ := join_good hJ
  have cA := chk_iff.2 gA
  have cD := chk_iff.2 gD
  have cJ := chk_iff.2 gJ
  have mJ1 : ∀ t, t ∈ srt (srt (a.1 ++ [T]) ++ a.1) ↔ t ∈ a.1 ∨ t = T := fun t => by
    rw [mem_srt, List.mem_append, mem_srt, List.mem_append, List.mem_singleton]
    exact ⟨fun h => h.elim id .inl, .inl⟩
  have mJ2 : ∀ t, t ∈ srt (a.2.1 ++ srt (a.2.1 ++ ofE a.1 e)) ↔ t ∈ a.2.1 ∨ (t ∈ a.1 ∧ t.1 = e) := fun t => by
    rw [mem_srt, List.mem_append, mem_srt, List.mem_append, hof]
    exact ⟨fun h => h.elim .inl id, .inr⟩
  have mA : ∀ t, t ∈ srt (a.1 ++ [T]) ↔ t ∈ a.1 ∨ t = T := fun t => by rw [mem_srt, List.mem_append, List.mem_singleton]
  have mD : ∀ t, t ∈ srt (a.2.1 ++ ofE a.1 e) ↔ t ∈ a.2.1 ∨ (t ∈ a.1 ∧ t.1 = e) := fun t => by rw [mem_srt, List.mem_append, hof]
  have iA : ∀ o, o ∈ elems (addB a e n) ↔ ∃ t, (t ∈ a.1 ∨ t = T) ∧ t ∉ a.2.1 ∧ t.1 = o := fun o => by
    rw [elems_iff cA, eA]
    exact ⟨fun ⟨t, h1, h2⟩ => ⟨t, (mA t).1 h1, h2⟩, fun ⟨t, h1, h2⟩ => ⟨t, (mA t).2 h1, h2⟩⟩
  have iD : ∀ o, o ∈ elems (dropB a e) ↔ ∃ t ∈ a.1, ¬ (t ∈ a.2.1 ∨ (t ∈ a.1 ∧ t.1 = e)) ∧ t.1 = o := fun o => by
    rw [elems_iff cD, eD]
    exact ⟨fun ⟨t, h1, h2, h3⟩ => ⟨t, h1, fun h => h2 ((mD t).2 h), h3⟩, fun ⟨t, h1, h2, h3⟩ => ⟨t, h1, fun h => h2 ((mD t).1 h), h3⟩⟩
  have iJ : ∀ o, o ∈ elems (joinB (addB a e n) (dropB a e)) ↔ ∃ t, (t ∈ a.1 ∨ t = T) ∧ ¬ (t ∈ a.2.1 ∨ (t ∈ a.1 ∧ t.1 = e)) ∧ t.1 = o := fun o => by
    rw [elems_iff cJ, eJ]
    exact ⟨fun ⟨t, h1, h2, h3⟩ => ⟨t, (mJ1 t).1 h1, fun h => h2 ((mJ2 t).2 h), h3⟩, fun ⟨t, h1, h2, h3⟩ => ⟨t, (mJ1 t).2 h1, fun h => h2 ((mJ2 t).1 h), h3⟩⟩
  refine ⟨hd, hc, cA, cD, hJ, cJ, (iA e).2 ⟨T, .inr rfl, fun h => hTa (g.sub T h), hTe⟩, fun h => ?_, (iJ e).2 ⟨T, .inr rfl, ?_, hTe⟩, fun o ho => ⟨?_, ?_, ?_⟩⟩
  · obtain ⟨t, h1, h2, h3⟩ := (iD e).1 h
    exact h2 (.inr ⟨h1, h3⟩)
  · rintro (h | h)
    · exact hTa (g.sub T h)
    · exact hTa h.1
  · rw [iA, elems_iff hc]
    constructor
    · rintro ⟨t, h1 | h1, h2, h3⟩
      · exact ⟨t, h1, h2, h3⟩
      · subst h1; exact absurd (h3.symm.trans hTe) ho
    · rintro ⟨t, h1, h2, h3⟩; exact ⟨t, .inl h1, h2, h3⟩
  · rw [iD, elems_iff hc]
    constructor
    · rintro ⟨t, h1, h2, h3⟩; exact ⟨t, h1, fun h => h2 (.inl h), h3⟩
    · rintro ⟨t, h1, h2, h3⟩
      exact ⟨t, h1, fun h => h.elim h2 fun h => ho (h3.symm.trans h.2), h3⟩
  · rw [iJ, elems_iff hc]
    constructor
    · rintro ⟨t, h1 | h1, h2, h3⟩
      · exact ⟨t, h1, fun h => h2 (.inl h), h3⟩
      · subst h1; exact absurd (h3.symm.trans hTe) ho
    · rintro ⟨t, h1, h2, h3⟩
      exact ⟨t, .inl h1, fun h => h.elim h2 fun h => ho (h3.symm.trans h.2), h3⟩
end Go.Proofs.YtgcliogognkdkaaDoor

/- What the functions of this seat have to satisfy, by program: each verification condition in plain words. -/
namespace Go.Proofs.YtgcliogognkdkaaDoor
open Go.Vc
set_option linter.unusedVariables false
theorem vcRIn (a b c : Int) (k : List Dat → Prop) : vcF ⟨Eb, [], [], [], []⟩ [joinAll] (Tryd.f31.body.getD .skip) Tryd.f31.ntmps [(.tmp 6, .bool)] [⟨I, a⟩, ⟨I, b⟩, ⟨I, c⟩] k = (
  (decide (b ≤ a) = true → k [Dat.mk Ty.bool (decide (a ≤ c))]) ∧ (decide (b ≤ a) = false → k [Dat.mk Ty.bool false])) := by kernel_rfl
theorem vcRCounts (l : List Int) (k : List Dat → Prop) : vcF ⟨Eb, [(31, cWithin)], [], [], []⟩ (anRCounts l) (Tryd.f5.body.getD .skip) Tryd.f5.ntmps [(.tmp 2, I)] [⟨.sl I, l⟩] k = (
  (decide ((↑l.length : Int) = (0 : Int)) = true → k [Dat.mk (I) (5 : Int)]) ∧ (decide ((↑l.length : Int) = (0 : Int)) = false → (decide ((5 : Int) < (↑l.length : Int)) = true → k [Dat.mk (I) (4 : Int)]) ∧ (decide ((5 : Int) < (↑l.length : Int)) = false → (∃ (x : Nat), (cntE l = cntF l (l.length - x) x ∧ x ≤ l.length) ∧ (l = l ∧ (0 : Int) = (↑x : Int) ∧ True) ∧ True ∧ True) ∧ ∀ (x : Nat), cntE l = cntF l (l.length - x) x ∧ x ≤ l.length → (decide ((↑x : Int) < (↑l.length : Int)) = true → (0 : Int) ≤ (↑x : Int) ∧ (↑x : Int) < (↑l.length : Int) ∧ True ∧ ((!inB (l.getD (↑x : Int).toNat (0 : Int)) (0 : Int) (1000000 : Int)) = true → k [Dat.mk (I) (1 : Int)]) ∧ ((!inB (l.getD (↑x : Int).toNat (0 : Int)) (0 : Int) (1000000 : Int)) = false → inK IntKind.i64 ((↑x : Int) + (1 : Int)) ∧ ∃ (x_1 : Nat), (cntE l = cntF l (l.length - x_1) x_1 ∧ x_1 ≤ l.length) ∧ l.length - x_1 < l.length - x ∧ (l = l ∧ (↑x : Int) + (1 : Int) = (↑x_1 : Int) ∧ True) ∧ True ∧ True)) ∧ (decide ((↑x : Int) < (↑l.length : Int)) = false → k [Dat.mk (I) (0 : Int)])))) := by kernel_rfl
theorem vcBelow (a b : Tag) (k : List Dat → Prop) : vcF ⟨Eb, [], [], [], []⟩ [joinAll] (Tryd.f43.body.getD .skip) Tryd.f43.ntmps [(.tmp 4, .bool)] [⟨tT, a⟩, ⟨tT, b⟩] k = (
  ((!decide (a.fst = b.fst)) = true → k [Dat.mk Ty.bool (decide (a.fst < b.fst))]) ∧ ((!decide (a.fst = b.fst)) = false → ((!decide (a.snd.fst = b.snd.fst)) = true → k [Dat.mk Ty.bool (decide (a.snd.fst < b.snd.fst))]) ∧ ((!decide (a.snd.fst = b.snd.fst)) = false → k [Dat.mk Ty.bool (decide (a.snd.snd.fst < b.snd.snd.fst))]))) := by kernel_rfl
theorem vcRTags (l : List Tag) (k : List Dat → Prop) : vcF ⟨Eb, [(31, cWithin), (43, cBelow)], [], [], []⟩ (anRTags l) (Tryd.f35.body.getD .skip) Tryd.f35.ntmps [(.tmp 2, I)] [⟨.sl tT, l⟩] k = (
  (decide ((24 : Int) < (↑l.length : Int)) = true → k [Dat.mk (I) (4 : Int)]) ∧ (decide ((24 : Int) < (↑l.length : Int)) = false → (∃ (x : Nat), (tagsE l = tagsF l (l.length - x) x ∧ x ≤ l.length) ∧ (l = l ∧ (0 : Int) = (↑x : Int) ∧ True) ∧ True ∧ True) ∧ ∀ (x : Nat), tagsE l = tagsF l (l.length - x) x ∧ x ≤ l.length → (decide ((↑x : Int) < (↑l.length : Int)) = true → (0 : Int) ≤ (↑x : Int) ∧ (↑x : Int) < (↑l.length : Int) ∧ True ∧ ((!inB (l.getD (↑x : Int).toNat ((0 : Int), (0 : Int), (0 : Int), ())).fst (0 : Int) (9 : Int)) = true → k [Dat.mk (I) (1 : Int)]) ∧ ((!inB (l.getD (↑x : Int).toNat ((0 : Int), (0 : Int), (0 : Int), ())).fst (0 : Int) (9 : Int)) = false → (0 : Int) ≤ (↑x : Int) ∧ (↑x : Int) < (↑l.length : Int) ∧ True ∧ ((!inB (l.getD (↑x : Int).toNat ((0 : Int), (0 : Int), (0 : Int), ())).snd.fst (0 : Int) (4 : Int)) = true → k [Dat.mk (I) (1 : Int)]) ∧ ((!inB (l.getD (↑x : Int).toNat ((0 : Int), (0 : Int), (0 : Int), ())).snd.fst (0 : Int) (4 : Int)) = false → (0 : Int) ≤ (↑x : Int) ∧ (↑x : Int) < (↑l.length : Int) ∧ True ∧ ((!inB (l.getD (↑x : Int).toNat ((0 : Int), (0 : Int), (0 : Int), ())).snd.snd.fst (1 : Int) (1000000 : Int)) = true → k [Dat.mk (I) (1 : Int)]) ∧ ((!inB (l.getD (↑x : Int).toNat ((0 : Int), (0 : Int), (0 : Int), ())).snd.snd.fst (1 : Int) (1000000 : Int)) = false → ((decide ((0 : Int) < (↑x : Int)) = true → inK IntKind.i64 ((↑x : Int) - (1 : Int)) ∧ (0 : Int) ≤ (↑x : Int) - (1 : Int) ∧ (↑x : Int) - (1 : Int) < (↑l.length : Int) ∧ (0 : Int) ≤ (↑x : Int) ∧ (↑x : Int) < (↑l.length : Int) ∧ True ∧ True) ∧ (decide ((0 : Int) < (↑x : Int)) = false → True)) ∧ ((decide ((0 : Int) < (↑x : Int)) && !decide (cmpT (l.getD ((↑x : Int) - (1 : Int)).toNat ((0 : Int), (0 : Int), (0 : Int), ())) (l.getD (↑x : Int).toNat ((0 : Int), (0 : Int), (0 : Int), ())) < (0 : Int))) = true → k [Dat.mk (I) (3 : Int)]) ∧ ((decide ((0 : Int) < (↑x : Int)) && !decide (cmpT (l.getD ((↑x : Int) - (1 : Int)).toNat ((0 : Int), (0 : Int), (0 : Int), ())) (l.getD (↑x : Int).toNat ((0 : Int), (0 : Int), (0 : Int), ())) < (0 : Int))) = false → inK IntKind.i64 ((↑x : Int) + (1 : Int)) ∧ ∃ (x_1 : Nat), (tagsE l = tagsF l (l.length - x_1) x_1 ∧ x_1 ≤ l.length) ∧ l.length - x_1 < l.length - x ∧ (l = l ∧ (↑x : Int) + (1 : Int) = (↑x_1 : Int) ∧ True) ∧ True ∧ True))))) ∧ (decide ((↑x : Int) < (↑l.length : Int)) = false → k [Dat.mk (I) (0 : Int)]))) := by kernel_rfl
theorem vcRHas (l : List Tag) (t : Tag) (k : List Dat → Prop) : vcF ⟨Eb, [], [], [], []⟩ (anRHas l t) (Tryd.f36.body.getD .skip) Tryd.f36.ntmps [(.tmp 4, .bool)] [⟨.sl tT, l⟩, ⟨tT, t⟩] k = (
  (∃ (x : Nat), (idxI l t = idxF l t (l.length - x) x ∧ x ≤ l.length) ∧ (l = l ∧ ([] : List Nat) = [] ∧ (0 : Int) = (↑x : Int) ∧ True) ∧ (((46 : Nat) = (46 : Nat) ∧ t = t) ∧ True) ∧ True) ∧ ∀ (x : Nat), idxI l t = idxF l t (l.length - x) x ∧ x ≤ l.length → (decide ((↑x : Int) < (↑l.length : Int)) = true → ((0 : Int) ≤ (↑x : Int) ∧ (↑x : Int) < (↑l.length : Int) ∧ True) ∧ ((decide ((l.getD (↑x : Int).toNat ((0 : Int), (0 : Int), (0 : Int), ())).fst = t.fst) && (decide ((l.getD (↑x : Int).toNat ((0 : Int), (0 : Int), (0 : Int), ())).snd.fst = t.snd.fst) && (decide ((l.getD (↑x : Int).toNat ((0 : Int), (0 : Int), (0 : Int), ())).snd.snd.fst = t.snd.snd.fst) && true))) = true → k [Dat.mk Ty.bool true]) ∧ ((decide ((l.getD (↑x : Int).toNat ((0 : Int), (0 : Int), (0 : Int), ())).fst = t.fst) && (decide ((l.getD (↑x : Int).toNat ((0 : Int), (0 : Int), (0 : Int), ())).snd.fst = t.snd.fst) && (decide ((l.getD (↑x : Int).toNat ((0 : Int), (0 : Int), (0 : Int), ())).snd.snd.fst = t.snd.snd.fst) && true))) = false → inK IntKind.i64 ((↑x : Int) + (1 : Int)) ∧ ∃ (x_1 : Nat), (idxI l t = idxF l t (l.length - x_1) x_1 ∧ x_1 ≤ l.length) ∧ l.length - x_1 < l.length - x ∧ (l = l ∧ ([] : List Nat) = [] ∧ (↑x : Int) + (1 : Int) = (↑x_1 : Int) ∧ True) ∧ (((46 : Nat) = (46 : Nat) ∧ t = t) ∧ True) ∧ True)) ∧ (decide ((↑x : Int) < (↑l.length : Int)) = false → k [Dat.mk Ty.bool false])) := by kernel_rfl
theorem vcRBag (b : Bag) (k : List Dat → Prop) : vcF ⟨Eb, [(35, cRTags), (36, cHasT)], [], [], []⟩ (anRBag b) (Tryd.f11.body.getD .skip) Tryd.f11.ntmps [(.tmp 2, I)] [⟨tB, b⟩] k = (
  True ∧ ((decide (tagsE b.fst = (0 : Int)) = true → True ∧ ∃ (x : Unit), (True ∧ True) ∧ (([] : List Nat) = [] ∧ (tagsE b.snd.fst = if tagsE b.fst = (0 : Int) then tagsE b.snd.fst else tagsE b.fst) ∧ True) ∧ (((25 : Nat) = (25 : Nat) ∧ b = b) ∧ True) ∧ True) ∧ (decide (tagsE b.fst = (0 : Int)) = false → ∃ (x : Unit), (True ∧ True) ∧ (([] : List Nat) = [] ∧ (tagsE b.fst = if tagsE b.fst = (0 : Int) then tagsE b.snd.fst else tagsE b.fst) ∧ True) ∧ (((25 : Nat) = (25 : Nat) ∧ b = b) ∧ True) ∧ True)) ∧ ∀ (x : Unit), True ∧ True → (∃ (x : Nat × Int), (x.fst ≤ b.snd.fst.length ∧ (x.snd = (0 : Int) → chkB b = goneF b (b.snd.fst.length - x.fst) x.fst) ∧ (x.snd ≠ (0 : Int) → chkB b = x.snd)) ∧ (([] : List Nat) = [] ∧ (if tagsE b.fst = (0 : Int) then tagsE b.snd.fst else tagsE b.fst) = x.snd ∧ (0 : Int) = (↑x.fst : Int) ∧ True) ∧ (((25 : Nat) = (25 : Nat) ∧ b = b) ∧ True) ∧ True) ∧ ∀ (x : Nat × Int), x.fst ≤ b.snd.fst.length ∧ (x.snd = (0 : Int) → chkB b = goneF b (b.snd.fst.length - x.fst) x.fst) ∧ (x.snd ≠ (0 : Int) → chkB b = x.snd) → (decide ((↑x.fst : Int) < (↑(List.length b.snd.fst) : Int)) = true → (decide (x.snd = (0 : Int)) = true → ((0 : Int) ≤ (↑x.fst : Int) ∧ (↑x.fst : Int) < (↑(List.length b.snd.fst) : Int) ∧ True ∧ True) ∧ ((!hasT b.fst (List.getD b.snd.fst (↑x.fst : Int).toNat ((0 : Int), (0 : Int), (0 : Int), ()))) = true → inK IntKind.i64 ((↑x.fst : Int) + (1 : Int)) ∧ ∃ (x_1 : Nat × Int), (x_1.fst ≤ b.snd.fst.length ∧ (x_1.snd = (0 : Int) → chkB b = goneF b (b.snd.fst.length - x_1.fst) x_1.fst) ∧ (x_1.snd ≠ (0 : Int) → chkB b = x_1.snd)) ∧ b.snd.fst.length - x_1.fst < b.snd.fst.length - x.fst ∧ (([] : List Nat) = [] ∧ (6 : Int) = x_1.snd ∧ (↑x.fst : Int) + (1 : Int) = (↑x_1.fst : Int) ∧ True) ∧ (((25 : Nat) = (25 : Nat) ∧ b = b) ∧ True) ∧ True) ∧ ((!hasT b.fst (List.getD b.snd.fst (↑x.fst : Int).toNat ((0 : Int), (0 : Int), (0 : Int), ()))) = false → inK IntKind.i64 ((↑x.fst : Int) + (1 : Int)) ∧ ∃ (x_1 : Nat × Int), (x_1.fst ≤ b.snd.fst.length ∧ (x_1.snd = (0 : Int) → chkB b = goneF b (b.snd.fst.length - x_1.fst) x_1.fst) ∧ (x_1.snd ≠ (0 : Int) → chkB b = x_1.snd)) ∧ b.snd.fst.length - x_1.fst < b.snd.fst.length - x.fst ∧ (([] : List Nat) = [] ∧ x.snd = x_1.snd ∧ (↑x.fst : Int) + (1 : Int) = (↑x_1.fst : Int) ∧ True) ∧ (((25 : Nat) = (25 : Nat) ∧ b = b) ∧ True) ∧ True)) ∧ (decide (x.snd = (0 : Int)) = false → k [Dat.mk (I) x.snd])) ∧ (decide ((↑x.fst : Int) < (↑(List.length b.snd.fst) : Int)) = false → k [Dat.mk (I) x.snd])) := by kernel_rfl
theorem vcRPut (l : List Tag) (t : Tag) (k : List Dat → Prop) : vcF ⟨Eb, [(36, cHasT), (43, cBelow)], [], [], []⟩ (anRPut l t) (Tryd.f19.body.getD .skip) Tryd.f19.ntmps [(.tmp 4, .sl tT)] [⟨.sl tT, l⟩, ⟨tT, t⟩] k = (
  True ∧ (hasT l t = true → k [Dat.mk (tT).sl l]) ∧ (hasT l t = false → (∃ (x : Nat), (x ≤ l.length ∧ hasT l t = false) ∧ (l = l ∧ ([] : List Nat) = [] ∧ True ∧ (0 : Int) = (↑x : Int) ∧ True) ∧ (((46 : Nat) = (46 : Nat) ∧ t = t) ∧ ((46 : Nat) = (46 : Nat) ∧ [] = List.filter (fun (u : tT.D) => decide (cmpT u t < (0 : Int))) (List.take x l)) ∧ True) ∧ True) ∧ ∀ (x : Nat), x ≤ l.length ∧ hasT l t = false → (decide ((↑x : Int) < (↑l.length : Int)) = true → ((0 : Int) ≤ (↑x : Int) ∧ (↑x : Int) < (↑l.length : Int) ∧ True ∧ True) ∧ (decide (cmpT (l.getD (↑x : Int).toNat ((0 : Int), (0 : Int), (0 : Int), ())) t < (0 : Int)) = true → (0 : Int) ≤ (↑x : Int) ∧ (↑x : Int) < (↑l.length : Int) ∧ (List.filter (fun (u : tT.D) => decide (cmpT u t < (0 : Int))) (List.take x l)).length + ((List.replicate (1 : Nat) ((0 : Int), (0 : Int), (0 : Int), ())).set (0 : Nat) (l.getD (↑x : Int).toNat ((0 : Int), (0 : Int), (0 : Int), ()))).length ≤ (1000000000 : Nat) ∧ inK IntKind.i64 ((↑x : Int) + (1 : Int)) ∧ ∃ (x_1 : Nat), (x_1 ≤ l.length ∧ hasT l t = false) ∧ l.length - x_1 < l.length - x ∧ (l = l ∧ ([] : List Nat) = [] ∧ True ∧ (↑x : Int) + (1 : Int) = (↑x_1 : Int) ∧ True) ∧ (((46 : Nat) = (46 : Nat) ∧ t = t) ∧ ((46 : Nat) = (46 : Nat) ∧ (List.filter (fun (u : tT.D) => decide (cmpT u t < (0 : Int))) (List.take x l)).append ((List.replicate (1 : Nat) ((0 : Int), (0 : Int), (0 : Int), ())).set (0 : Nat) (l.getD (↑x : Int).toNat ((0 : Int), (0 : Int), (0 : Int), ()))) = List.filter (fun (u : tT.D) => decide (cmpT u t < (0 : Int))) (List.take x_1 l)) ∧ True) ∧ True) ∧ (decide (cmpT (l.getD (↑x : Int).toNat ((0 : Int), (0 : Int), (0 : Int), ())) t < (0 : Int)) = false → inK IntKind.i64 ((↑x : Int) + (1 : Int)) ∧ ∃ (x_1 : Nat), (x_1 ≤ l.length ∧ hasT l t = false) ∧ l.length - x_1 < l.length - x ∧ (l = l ∧ ([] : List Nat) = [] ∧ True ∧ (↑x : Int) + (1 : Int) = (↑x_1 : Int) ∧ True) ∧ (((46 : Nat) = (46 : Nat) ∧ t = t) ∧ ((46 : Nat) = (46 : Nat) ∧ List.filter (fun (u : tT.D) => decide (cmpT u t < (0 : Int))) (List.take x l) = List.filter (fun (u : tT.D) => decide (cmpT u t < (0 : Int))) (List.take x_1 l)) ∧ True) ∧ True)) ∧ (decide ((↑x : Int) < (↑l.length : Int)) = false → (List.filter (fun (u : tT.D) => decide (cmpT u t < (0 : Int))) (List.take x l)).length + ((List.replicate (1 : Nat) ((0 : Int), (0 : Int), (0 : Int), ())).set (0 : Nat) t).length ≤ (1000000000 : Nat) ∧ (∃ (x_1 : Nat), (x_1 ≤ l.length ∧ hasT l t = false) ∧ (l = l ∧ ([] : List Nat) = [] ∧ True ∧ (0 : Int) = (↑x_1 : Int) ∧ True) ∧ (((46 : Nat) = (46 : Nat) ∧ t = t) ∧ ((46 : Nat) = (46 : Nat) ∧ (List.filter (fun (u : tT.D) => decide (cmpT u t < (0 : Int))) (List.take x l)).append ((List.replicate (1 : Nat) ((0 : Int), (0 : Int), (0 : Int), ())).set (0 : Nat) t) = List.filter (fun (u : Tag) => decide (cmpT u t < (0 : Int))) l ++ [t] ++ List.filter (fun (u : Tag) => decide (cmpT t u < (0 : Int))) (List.take x_1 l)) ∧ True) ∧ True) ∧ ∀ (x : Nat), x ≤ l.length ∧ hasT l t = false → (decide ((↑x : Int) < (↑l.length : Int)) = true → ((0 : Int) ≤ (↑x : Int) ∧ (↑x : Int) < (↑l.length : Int) ∧ True ∧ True) ∧ (decide (cmpT t (l.getD (↑x : Int).toNat ((0 : Int), (0 : Int), (0 : Int), ())) < (0 : Int)) = true → (0 : Int) ≤ (↑x : Int) ∧ (↑x : Int) < (↑l.length : Int) ∧ (List.filter (fun (u : Tag) => decide (cmpT u t < (0 : Int))) l ++ [t] ++ List.filter (fun (u : Tag) => decide (cmpT t u < (0 : Int))) (List.take x l)).length + ((List.replicate (1 : Nat) ((0 : Int), (0 : Int), (0 : Int), ())).set (0 : Nat) (l.getD (↑x : Int).toNat ((0 : Int), (0 : Int), (0 : Int), ()))).length ≤ (1000000000 : Nat) ∧ inK IntKind.i64 ((↑x : Int) + (1 : Int)) ∧ ∃ (x_1 : Nat), (x_1 ≤ l.length ∧ hasT l t = false) ∧ l.length - x_1 < l.length - x ∧ (l = l ∧ ([] : List Nat) = [] ∧ True ∧ (↑x : Int) + (1 : Int) = (↑x_1 : Int) ∧ True) ∧ (((46 : Nat) = (46 : Nat) ∧ t = t) ∧ ((46 : Nat) = (46 : Nat) ∧ (List.filter (fun (u : Tag) => decide (cmpT u t < (0 : Int))) l ++ [t] ++ List.filter (fun (u : Tag) => decide (cmpT t u < (0 : Int))) (List.take x l)).append ((List.replicate (1 : Nat) ((0 : Int), (0 : Int), (0 : Int), ())).set (0 : Nat) (l.getD (↑x : Int).toNat ((0 : Int), (0 : Int), (0 : Int), ()))) = List.filter (fun (u : Tag) => decide (cmpT u t < (0 : Int))) l ++ [t] ++ List.filter (fun (u : Tag) => decide (cmpT t u < (0 : Int))) (List.take x_1 l)) ∧ True) ∧ True) ∧ (decide (cmpT t (l.getD (↑x : Int).toNat ((0 : Int), (0 : Int), (0 : Int), ())) < (0 : Int)) = false → inK IntKind.i64 ((↑x : Int) + (1 : Int)) ∧ ∃ (x_1 : Nat), (x_1 ≤ l.length ∧ hasT l t = false) ∧ l.length - x_1 < l.length - x ∧ (l = l ∧ ([] : List Nat) = [] ∧ True ∧ (↑x : Int) + (1 : Int) = (↑x_1 : Int) ∧ True) ∧ (((46 : Nat) = (46 : Nat) ∧ t = t) ∧ ((46 : Nat) = (46 : Nat) ∧ List.filter (fun (u : Tag) => decide (cmpT u t < (0 : Int))) l ++ [t] ++ List.filter (fun (u : Tag) => decide (cmpT t u < (0 : Int))) (List.take x l) = List.filter (fun (u : Tag) => decide (cmpT u t < (0 : Int))) l ++ [t] ++ List.filter (fun (u : Tag) => decide (cmpT t u < (0 : Int))) (List.take x_1 l)) ∧ True) ∧ True)) ∧ (decide ((↑x : Int) < (↑l.length : Int)) = false → k [Dat.mk (tT).sl (List.filter (fun (u : Tag) => decide (cmpT u t < (0 : Int))) l ++ [t] ++ List.filter (fun (u : Tag) => decide (cmpT t u < (0 : Int))) (List.take x l))])))) := by kernel_rfl
theorem vcRAll (a b : List Tag) (k : List Dat → Prop) : vcF ⟨Eb, [(19, cRPut)], [], [], []⟩ (anRAll a b) (Tryd.f21.body.getD .skip) Tryd.f21.ntmps [(.tmp 4, .sl tT)] [⟨.sl tT, a⟩, ⟨.sl tT, b⟩] k = (
  (∃ (x : Nat), (x ≤ b.length ∧ True) ∧ (a = allU a b x ∧ b = b ∧ (0 : Int) = (↑x : Int) ∧ True) ∧ True ∧ True) ∧ ∀ (x : Nat), x ≤ b.length ∧ True → (decide ((↑x : Int) < (↑b.length : Int)) = true → (0 : Int) ≤ (↑x : Int) ∧ (↑x : Int) < (↑b.length : Int) ∧ ((allU a b x).length ≤ (100000 : Nat) ∧ True) ∧ inK IntKind.i64 ((↑x : Int) + (1 : Int)) ∧ ∃ (x_1 : Nat), (x_1 ≤ b.length ∧ True) ∧ b.length - x_1 < b.length - x ∧ (putL (allU a b x) (b.getD (↑x : Int).toNat ((0 : Int), (0 : Int), (0 : Int), ())) = allU a b x_1 ∧ b = b ∧ (↑x : Int) + (1 : Int) = (↑x_1 : Int) ∧ True) ∧ True ∧ True) ∧ (decide ((↑x : Int) < (↑b.length : Int)) = false → k [Dat.mk (tT).sl (allU a b x)])) := by kernel_rfl
theorem vcRNext (b : Bag) (n : Int) (k : List Dat → Prop) : vcF ⟨Eb, [], [], [], []⟩ (anRNext b n) (Tryd.f18.body.getD .skip) Tryd.f18.ntmps [(.tmp 4, I)] [⟨tB, b⟩, ⟨I, n⟩] k = (
  (∃ (x : Nat), (x ≤ b.fst.length ∧ True) ∧ (n = n ∧ ([] : List Nat) = [] ∧ (0 : Int) = maxC b.fst n x ∧ (0 : Int) = (↑x : Int) ∧ True) ∧ (((25 : Nat) = (25 : Nat) ∧ b = b) ∧ True) ∧ True) ∧ ∀ (x : Nat), x ≤ b.fst.length ∧ True → (decide ((↑x : Int) < (↑(List.length b.fst) : Int)) = true → (0 : Int) ≤ (↑x : Int) ∧ (↑x : Int) < (↑(List.length b.fst) : Int) ∧ (decide ((List.getD b.fst (↑x : Int).toNat ((0 : Int), (0 : Int), (0 : Int), ())).snd.fst = n) = true → (0 : Int) ≤ (↑x : Int) ∧ (↑x : Int) < (↑(List.length b.fst) : Int) ∧ (decide (maxC b.fst n x < (List.getD b.fst (↑x : Int).toNat ((0 : Int), (0 : Int), (0 : Int), ())).snd.snd.fst) = true → (0 : Int) ≤ (↑x : Int) ∧ (↑x : Int) < (↑(List.length b.fst) : Int) ∧ inK IntKind.i64 ((↑x : Int) + (1 : Int)) ∧ ∃ (x_1 : Nat), (x_1 ≤ b.fst.length ∧ True) ∧ b.fst.length - x_1 < b.fst.length - x ∧ (n = n ∧ ([] : List Nat) = [] ∧ (List.getD b.fst (↑x : Int).toNat ((0 : Int), (0 : Int), (0 : Int), ())).snd.snd.fst = maxC b.fst n x_1 ∧ (↑x : Int) + (1 : Int) = (↑x_1 : Int) ∧ True) ∧ (((25 : Nat) = (25 : Nat) ∧ b = b) ∧ True) ∧ True) ∧ (decide (maxC b.fst n x < (List.getD b.fst (↑x : Int).toNat ((0 : Int), (0 : Int), (0 : Int), ())).snd.snd.fst) = false → inK IntKind.i64 ((↑x : Int) + (1 : Int)) ∧ ∃ (x_1 : Nat), (x_1 ≤ b.fst.length ∧ True) ∧ b.fst.length - x_1 < b.fst.length - x ∧ (n = n ∧ ([] : List Nat) = [] ∧ maxC b.fst n x = maxC b.fst n x_1 ∧ (↑x : Int) + (1 : Int) = (↑x_1 : Int) ∧ True) ∧ (((25 : Nat) = (25 : Nat) ∧ b = b) ∧ True) ∧ True)) ∧ (decide ((List.getD b.fst (↑x : Int).toNat ((0 : Int), (0 : Int), (0 : Int), ())).snd.fst = n) = false → inK IntKind.i64 ((↑x : Int) + (1 : Int)) ∧ ∃ (x_1 : Nat), (x_1 ≤ b.fst.length ∧ True) ∧ b.fst.length - x_1 < b.fst.length - x ∧ (n = n ∧ ([] : List Nat) = [] ∧ maxC b.fst n x = maxC b.fst n x_1 ∧ (↑x : Int) + (1 : Int) = (↑x_1 : Int) ∧ True) ∧ (((25 : Nat) = (25 : Nat) ∧ b = b) ∧ True) ∧ True)) ∧ (decide ((↑x : Int) < (↑(List.length b.fst) : Int)) = false → inK IntKind.i64 (maxC b.fst n x + (1 : Int)) ∧ k [Dat.mk (I) (maxC b.fst n x + (1 : Int))])) := by kernel_rfl
theorem vcRDropped (b : Bag) (e : Int) (k : List Dat → Prop) : vcF ⟨Eb, [(19, cRPut)], [], [], []⟩ (anRDropped b e) (Tryd.f15.body.getD .skip) Tryd.f15.ntmps [(.cell 4 25, tB)] [⟨tB, b⟩, ⟨I, e⟩] k = (
  (∃ (x : Nat), (x ≤ b.fst.length ∧ True) ∧ (e = e ∧ ([] : List Nat) = [] ∧ ([] : List Nat) = [] ∧ (0 : Int) = (↑x : Int) ∧ True) ∧ (((25 : Nat) = (25 : Nat) ∧ b = (b.fst, goneU b e x, ())) ∧ ((25 : Nat) = (25 : Nat) ∧ ([], [], ()) = bag0) ∧ True) ∧ True) ∧ ∀ (x : Nat), x ≤ b.fst.length ∧ True → (decide ((↑x : Int) < (↑b.fst.length : Int)) = true → (0 : Int) ≤ (↑x : Int) ∧ (↑x : Int) < (↑b.fst.length : Int) ∧ (decide ((b.fst.getD (↑x : Int).toNat ((0 : Int), (0 : Int), (0 : Int), ())).fst = e) = true → ((0 : Int) ≤ (↑x : Int) ∧ (↑x : Int) < (↑b.fst.length : Int) ∧ ((goneU b e x).length ≤ (100000 : Nat) ∧ True) ∧ True) ∧ inK IntKind.i64 ((↑x : Int) + (1 : Int)) ∧ ∃ (x_1 : Nat), (x_1 ≤ b.fst.length ∧ True) ∧ b.fst.length - x_1 < b.fst.length - x ∧ (e = e ∧ ([] : List Nat) = [] ∧ ([] : List Nat) = [] ∧ (↑x : Int) + (1 : Int) = (↑x_1 : Int) ∧ True) ∧ (((25 : Nat) = (25 : Nat) ∧ (b.fst, putL (goneU b e x) (b.fst.getD (↑x : Int).toNat ((0 : Int), (0 : Int), (0 : Int), ())), ()) = (b.fst, goneU b e x_1, ())) ∧ ((25 : Nat) = (25 : Nat) ∧ bag0 = bag0) ∧ True) ∧ True) ∧ (decide ((b.fst.getD (↑x : Int).toNat ((0 : Int), (0 : Int), (0 : Int), ())).fst = e) = false → inK IntKind.i64 ((↑x : Int) + (1 : Int)) ∧ ∃ (x_1 : Nat), (x_1 ≤ b.fst.length ∧ True) ∧ b.fst.length - x_1 < b.fst.length - x ∧ (e = e ∧ ([] : List Nat) = [] ∧ ([] : List Nat) = [] ∧ (↑x : Int) + (1 : Int) = (↑x_1 : Int) ∧ True) ∧ (((25 : Nat) = (25 : Nat) ∧ (b.fst, goneU b e x, ()) = (b.fst, goneU b e x_1, ())) ∧ ((25 : Nat) = (25 : Nat) ∧ bag0 = bag0) ∧ True) ∧ True)) ∧ (decide ((↑x : Int) < (↑b.fst.length : Int)) = false → k [Dat.mk (tB) (b.fst, goneU b e x, ())])) := by kernel_rfl
theorem vcRElems (b : Bag) (k : List Dat → Prop) : vcF ⟨Eb, [(36, cHasT)], [], [], []⟩ (anRElems b) (Tryd.f13.body.getD .skip) Tryd.f13.ntmps [(.tmp 2, .sl I)] [⟨tB, b⟩] k = (
  (∃ (x : Nat), (x ≤ (10 : Nat) ∧ True) ∧ (([] : List Nat) = [] ∧ True ∧ (0 : Int) = (↑x : Int) ∧ True) ∧ (((25 : Nat) = (25 : Nat) ∧ b = b) ∧ ((3 : Nat) = (3 : Nat) ∧ [] = elsR b x) ∧ True) ∧ True) ∧ ∀ (x : Nat), x ≤ (10 : Nat) ∧ True → (decide ((↑x : Int) < (10 : Int)) = true → (∃ (x_1 : Nat), (x_1 ≤ b.fst.length ∧ True) ∧ (([] : List Nat) = [] ∧ True ∧ (↑x : Int) = (↑x : Int) ∧ false = hereU b (↑x : Int) x_1 ∧ (0 : Int) = (↑x_1 : Int) ∧ True) ∧ (((25 : Nat) = (25 : Nat) ∧ b = b) ∧ ((3 : Nat) = (3 : Nat) ∧ elsR b x = elsR b x) ∧ True) ∧ True) ∧ ∀ (x_1 : Nat), x_1 ≤ b.fst.length ∧ True → (decide ((↑x_1 : Int) < (↑(List.length b.fst) : Int)) = true → ((hereU b (↑x : Int) x_1 = true → True) ∧ (hereU b (↑x : Int) x_1 = false → (0 : Int) ≤ (↑x_1 : Int) ∧ (↑x_1 : Int) < (↑(List.length b.fst) : Int) ∧ (decide ((List.getD b.fst (↑x_1 : Int).toNat ((0 : Int), (0 : Int), (0 : Int), ())).fst = (↑x : Int)) = true → (0 : Int) ≤ (↑x_1 : Int) ∧ (↑x_1 : Int) < (↑(List.length b.fst) : Int) ∧ True ∧ True) ∧ (decide ((List.getD b.fst (↑x_1 : Int).toNat ((0 : Int), (0 : Int), (0 : Int), ())).fst = (↑x : Int)) = false → True))) ∧ inK IntKind.i64 ((↑x_1 : Int) + (1 : Int)) ∧ ∃ (x_2 : Nat), (x_2 ≤ b.fst.length ∧ True) ∧ b.fst.length - x_2 < b.fst.length - x_1 ∧ (([] : List Nat) = [] ∧ True ∧ (↑x : Int) = (↑x : Int) ∧ (hereU b (↑x : Int) x_1 || decide ((List.getD b.fst (↑x_1 : Int).toNat ((0 : Int), (0 : Int), (0 : Int), ())).fst = (↑x : Int)) && !hasT b.snd.fst (List.getD b.fst (↑x_1 : Int).toNat ((0 : Int), (0 : Int), (0 : Int), ()))) = hereU b (↑x : Int) x_2 ∧ (↑x_1 : Int) + (1 : Int) = (↑x_2 : Int) ∧ True) ∧ (((25 : Nat) = (25 : Nat) ∧ b = b) ∧ ((3 : Nat) = (3 : Nat) ∧ elsR b x = elsR b x) ∧ True) ∧ True) ∧ (decide ((↑x_1 : Int) < (↑(List.length b.fst) : Int)) = false → (hereU b (↑x : Int) x_1 = true → (elsR b x).length + ((List.replicate (1 : Nat) (0 : Int)).set (0 : Nat) (↑x : Int)).length ≤ (1000000000 : Nat) ∧ inK IntKind.i64 ((↑x : Int) + (1 : Int)) ∧ ∃ (x_2 : Nat), (x_2 ≤ (10 : Nat) ∧ True) ∧ (10 : Nat) - x_2 < (10 : Nat) - x ∧ (([] : List Nat) = [] ∧ True ∧ (↑x : Int) + (1 : Int) = (↑x_2 : Int) ∧ True) ∧ (((25 : Nat) = (25 : Nat) ∧ b = b) ∧ ((3 : Nat) = (3 : Nat) ∧ (elsR b x).append ((List.replicate (1 : Nat) (0 : Int)).set (0 : Nat) (↑x : Int)) = elsR b x_2) ∧ True) ∧ True) ∧ (hereU b (↑x : Int) x_1 = false → inK IntKind.i64 ((↑x : Int) + (1 : Int)) ∧ ∃ (x_2 : Nat), (x_2 ≤ (10 : Nat) ∧ True) ∧ (10 : Nat) - x_2 < (10 : Nat) - x ∧ (([] : List Nat) = [] ∧ True ∧ (↑x : Int) + (1 : Int) = (↑x_2 : Int) ∧ True) ∧ (((25 : Nat) = (25 : Nat) ∧ b = b) ∧ ((3 : Nat) = (3 : Nat) ∧ elsR b x = elsR b x_2) ∧ True) ∧ True))) ∧ (decide ((↑x : Int) < (10 : Int)) = false → k [Dat.mk (I).sl (elsR b x)])) := by kernel_rfl
end Go.Proofs.YtgcliogognkdkaaDoor

/- Bags and counters: the document's functions keep their contracts. -/
namespace Go.Proofs.YtgcliogognkdkaaDoor
open Go.Vc

theorem okRIn : PlainOk Tryd.prog [] 31 cWithin := by
  refine plain_of (CxOk.mk' Eb_ok (by kernel_rfl) mixed (gl := []) GOk.nil GoOk.nil noIt) Tryd.func31 (c := Tryd.f31.body.getD .skip) (rvs := [(.tmp 6, .bool)]) (by kernel_rfl) (by kernel_rfl) (by kernel_rfl) ?_
  intro ds k ⟨hp, hk⟩ hwf
  obtain ⟨a, b, c, rfl, -⟩ := dest3 hp
  refine ⟨[joinAll], ?_⟩
  rw [vcRIn]
  have ret : ∀ x : Bool, inB a b c = x → k [⟨.bool, x⟩] := by rintro _ rfl; exact hk
  exact ⟨fun h => ret _ (by unfold inB; rw [h]; rfl), fun h => ret _ (by unfold inB; rw [h]; rfl)⟩

theorem rcounts_vc (l : List Int) (hl : l.length ≤ maxLen) (k : List Dat → Prop) (hk : k [⟨I, cntE l⟩]) : vcF ⟨Eb, [(31, cWithin)], [], [], []⟩ (anRCounts l) (Tryd.f5.body.getD .skip) Tryd.f5.ntmps [(.tmp 2, I)] [⟨.sl I, l⟩] k := by
  rw [vcRCounts]
  have hml : maxLen ≤ 9223372036854775807 := by decide
  have ret : ∀ x : Int, cntE l = x → k [⟨I, x⟩] := by rintro _ rfl; exact hk
  simp only [decide_eq_true_eq, decide_eq_false_iff_not, true_and, and_true, Bool.not_eq_true', Bool.not_eq_false', Int.toNat_natCast, inK_i64]
  refine ⟨fun h => ret _ (by unfold cntE; rw [if_pos (by omega)]), fun h => ⟨fun h2 => ret _ (by unfold cntE; rw [if_neg (by omega), if_pos (by omega)]), fun h2 => ⟨⟨0, ⟨?_, Nat.zero_le _⟩, rfl⟩, fun x ⟨ho, hx⟩ => ⟨fun hlt => ?_, fun hge => ret _ ?_⟩⟩⟩⟩
  · unfold cntE; rw [if_neg (by omega), if_neg (by omega), Nat.sub_zero]
  · have hxl : x < l.length := by omega
    have hs : cntF l (l.length - x) x = if inB (l.getD x 0) 0 1000000 = true then cntF l (l.length - (x + 1)) (x + 1) else 1 := by
      rw [show l.length - x = (l.length - (x + 1)) + 1 by omega]; rfl
    refine ⟨by omega, hlt, fun he => ret _ ?_, fun hne => ⟨by omega, x + 1, ⟨?_, by omega⟩, by omega, by omega⟩⟩
    · rw [ho, hs, if_neg (by rw [he]; decide)]
    · rw [ho, hs, if_pos hne]
  · have : x = l.length := by omega
    rw [ho, this, Nat.sub_self]; rfl
theorem okRCounts : PlainOk Tryd.prog [] 5 cRCounts := by
  refine plain_of (CxOk.mk' Eb_ok (by kernel_rfl) mixed (gl := []) (GOk.cons okRIn Tryd.func31 (by kernel_rfl) (by kernel_rfl) GOk.nil) GoOk.nil noIt) Tryd.func5 (c := Tryd.f5.body.getD .skip) (rvs := [(.tmp 2, I)]) (by kernel_rfl) (by kernel_rfl) (by kernel_rfl) ?_
  intro ds k ⟨hp, hk⟩ hwf
  obtain ⟨l, rfl, -⟩ := dest1 hp
  exact ⟨anRCounts l, rcounts_vc l (wf1 hwf).1 k hk⟩

theorem okBelow : PlainOk Tryd.prog [] 43 cBelow := by
  refine plain_of (CxOk.mk' Eb_ok (by kernel_rfl) mixed (gl := []) GOk.nil GoOk.nil noIt) Tryd.func43 (c := Tryd.f43.body.getD .skip) (rvs := [(.tmp 4, .bool)]) (by kernel_rfl) (by kernel_rfl) (by kernel_rfl) ?_
  intro ds k ⟨hp, hk⟩ hwf
  obtain ⟨a, b, rfl, -⟩ := dest2 hp
  refine ⟨[joinAll], ?_⟩
  rw [vcBelow]
  have ret : ∀ p : Prop, [Decidable p] → (cmpT a b < 0 ↔ p) → k [⟨.bool, decide p⟩] := fun p _ h => by
    have : decide (cmpT a b < 0) = decide p := decide_eq_decide.2 h
    rw [← this]; exact hk
  simp only [decide_eq_true_eq, decide_eq_false_iff_not, Bool.not_eq_true', Bool.not_eq_false']
  refine ⟨fun h => ret _ ?_, fun h => ⟨fun h2 => ret _ ?_, fun h2 => ret _ ?_⟩⟩ <;> rw [cmpT_lt] <;> unfold ltT <;> omega

theorem rtags_vc (l : List Tag) (hl : l.length ≤ maxLen) (k : List Dat → Prop) (hk : k [⟨I, tagsE l⟩]) : vcF ⟨Eb, [(31, cWithin), (43, cBelow)], [], [], []⟩ (anRTags l) (Tryd.f35.body.getD .skip) Tryd.f35.ntmps [(.tmp 2, I)] [⟨.sl tT, l⟩] k := by
  rw [vcRTags]
  have hml : maxLen ≤ 9223372036854775807 := by decide
  have ret : ∀ x : Int, tagsE l = x → k [⟨I, x⟩] := by rintro _ rfl; exact hk
  simp only [decide_eq_true_eq, decide_eq_false_iff_not, true_and, and_true, Bool.not_eq_true', Bool.not_eq_false', Int.toNat_natCast, inK_i64]
  refine ⟨fun h => ret _ (by unfold tagsE; rw [if_pos (by omega)]), fun h => ⟨⟨0, ⟨?_, Nat.zero_le _⟩, rfl⟩, fun x ⟨ho, hx⟩ => ⟨fun hlt => ?_, fun hge => ret _ ?_⟩⟩⟩
  · unfold tagsE; rw [if_neg (by omega), Nat.sub_zero]
  · have hxl : x < l.length := by omega
    have hs := tagsF_step l hxl
    have e0 : l.getD x ((0 : Int), (0 : Int), (0 : Int), ()) = l.getD x tag0 := rfl
    have hin : tagIn (l.getD x tag0) = false → tagE l x = 1 := fun h => by unfold tagE; rw [if_pos h]
    have r1 : tagIn (l.getD x tag0) = false → tagsE l = 1 := fun h => by rw [ho, hs, hin h, if_neg (by decide)]
    have e1 : ((x : Int) - 1).toNat = x - 1 := by omega
    refine ⟨by omega, hlt, fun h1 => ret _ (r1 ?_), fun h1 => ⟨by omega, hlt, fun h2 => ret _ (r1 ?_), fun h2 => ⟨by omega, hlt, fun h3 => ret _ (r1 ?_), fun h3 => ⟨⟨fun hp => ⟨by omega, by omega, by omega, by omega, hlt⟩, fun _ => trivial⟩, fun hb => ret _ ?_, fun hb => ⟨by omega, x + 1, ⟨?_, by omega⟩, by omega, by omega⟩⟩⟩⟩⟩
    · unfold tagIn; rw [← e0, h1]; rfl
    · unfold tagIn; rw [← e0, h1, h2]; rfl
    · unfold tagIn; rw [← e0, h1, h2, h3]; rfl
    · have hti : tagIn (l.getD x tag0) = true := by unfold tagIn; rw [← e0, h1, h2, h3]; rfl
      rw [e1, Bool.and_eq_true, Bool.not_eq_true', decide_eq_true_eq, decide_eq_false_iff_not] at hb
      have hb2 : ¬ cmpT (l.getD (x - 1) tag0) (l.getD x tag0) < 0 := hb.2
      have : tagE l x = 3 := by
        unfold tagE
        rw [if_neg (by rw [hti]; decide), if_pos ⟨by omega, by omega⟩]
      rw [ho, hs, this, if_neg (by decide)]
    · have hti : tagIn (l.getD x tag0) = true := by unfold tagIn; rw [← e0, h1, h2, h3]; rfl
      rw [e1] at hb
      have : tagE l x = 0 := by
        unfold tagE
        rw [if_neg (by rw [hti]; decide), if_neg]
        rintro ⟨c1, c2⟩
        have : (decide (0 < (x : Int)) && !decide (cmpT (l.getD (x - 1) (0, 0, 0, ())) (l.getD x (0, 0, 0, ())) < 0)) = true := by
          rw [Bool.and_eq_true, Bool.not_eq_true', decide_eq_true_eq, decide_eq_false_iff_not]
          exact ⟨by omega, fun c3 => absurd (show cmpT (l.getD (x - 1) tag0) (l.getD x tag0) < 0 from c3) (by omega)⟩
        rw [hb] at this; cases this
      rw [ho, hs, this, if_pos rfl]
  · have : x = l.length := by omega
    rw [ho, this, Nat.sub_self]; rfl
theorem okRTags : PlainOk Tryd.prog [] 35 cRTags := by
  refine plain_of (CxOk.mk' Eb_ok (by kernel_rfl) mixed (gl := []) (GOk.cons okRIn Tryd.func31 (by kernel_rfl) (by kernel_rfl) (GOk.cons okBelow Tryd.func43 (by kernel_rfl) (by kernel_rfl) GOk.nil)) GoOk.nil noIt) Tryd.func35 (c := Tryd.f35.body.getD .skip) (rvs := [(.tmp 2, I)]) (by kernel_rfl) (by kernel_rfl) (by kernel_rfl) ?_
  intro ds k ⟨hp, hk⟩ hwf
  obtain ⟨l, rfl, -⟩ := dest1 hp
  exact ⟨anRTags l, rtags_vc l (wf1 hwf).1 k hk⟩

theorem rhas_vc (l : List Tag) (t : Tag) (hl : l.length ≤ maxLen) (k : List Dat → Prop) (hk : k [⟨.bool, hasT l t⟩]) : vcF ⟨Eb, [], [], [], []⟩ (anRHas l t) (Tryd.f36.body.getD .skip) Tryd.f36.ntmps [(.tmp 4, .bool)] [⟨.sl tT, l⟩, ⟨tT, t⟩] k := by
  rw [vcRHas]
  have hml : maxLen ≤ 9223372036854775807 := by decide
  have ret : ∀ x : Bool, hasT l t = x → k [⟨.bool, x⟩] := by rintro _ rfl; exact hk
  simp only [decide_eq_true_eq, decide_eq_false_iff_not, true_and, and_true, Int.toNat_natCast, inK_i64, tag_eqB]
  refine ⟨⟨0, ⟨rfl, Nat.zero_le _⟩, rfl⟩, fun x ⟨ho, hx⟩ => ⟨fun hlt => ?_, fun hge => ret _ ?_⟩⟩
  · have hxl : x < l.length := by omega
    have hs : idxF l t (l.length - x) x = if l.getD x tag0 = t then (x : Int) else idxF l t (l.length - (x + 1)) (x + 1) := by
      rw [show l.length - x = (l.length - (x + 1)) + 1 by omega]; rfl
    refine ⟨⟨by omega, hlt⟩, fun he => ret _ ?_, fun hne => ⟨by omega, x + 1, ⟨?_, by omega⟩, by omega, by omega⟩⟩
    · unfold hasT; rw [ho, hs, if_pos (show l.getD x tag0 = t from he)]; exact decide_eq_true (by omega)
    · rw [ho, hs, if_neg (show ¬ l.getD x tag0 = t from hne)]
  · have : x = l.length := by omega
    unfold hasT
    rw [ho, this, Nat.sub_self]; rfl
theorem okRHas : PlainOk Tryd.prog [] 36 cHasT := by
  refine plain_of (CxOk.mk' Eb_ok (by kernel_rfl) mixed (gl := []) GOk.nil GoOk.nil noIt) Tryd.func36 (c := Tryd.f36.body.getD .skip) (rvs := [(.tmp 4, .bool)]) (by kernel_rfl) (by kernel_rfl) (by kernel_rfl) ?_
  intro ds k ⟨hp, hk⟩ hwf
  obtain ⟨l, t, rfl, -⟩ := dest2 hp
  exact ⟨anRHas l t, rhas_vc l t (wf2 hwf).1.1 k hk⟩

theorem goneF_step (b : Bag) {x : Nat} (h : x < b.2.1.length) : goneF b (b.2.1.length - x) x = if hasT b.1 (b.2.1.getD x tag0) = true then goneF b (b.2.1.length - (x + 1)) (x + 1) else 6 := by
  rw [show b.2.1.length - x = (b.2.1.length - (x + 1)) + 1 by omega]; rfl
theorem goneF_6 {b : Bag} : ∀ f i, goneF b f i = 0 ∨ goneF b f i = 6
  | 0, _ => .inl rfl
  | f + 1, i => by
    unfold goneF
    split
    · exact goneF_6 f (i + 1)
    · exact .inr rfl
theorem rbag_vc (b : Bag) (hl : b.2.1.length ≤ maxLen) (k : List Dat → Prop) (hk : k [⟨I, chkB b⟩]) : vcF ⟨Eb, [(35, cRTags), (36, cHasT)], [], [], []⟩ (anRBag b) (Tryd.f11.body.getD .skip) Tryd.f11.ntmps [(.tmp 2, I)] [⟨tB, b⟩] k := by
  rw [vcRBag]
  have hml : maxLen ≤ 9223372036854775807 := by decide
  have ret : ∀ x : Int, chkB b = x → k [⟨I, x⟩] := by rintro _ rfl; exact hk
  simp only [decide_eq_true_eq, decide_eq_false_iff_not, true_and, and_true, Bool.not_eq_true', Bool.not_eq_false', Int.toNat_natCast, inK_i64, exists_const, forall_const]
  refine ⟨⟨fun h => by rw [if_pos h], fun h => by rw [if_neg h]⟩, ⟨(0, if tagsE b.1 = 0 then tagsE b.2.1 else tagsE b.1), ⟨Nat.zero_le _, fun h => ?_, fun h => ?_⟩, rfl, rfl⟩, ?_⟩
  · dsimp only at h ⊢
    unfold chkB
    by_cases h1 : tagsE b.1 = 0
    · rw [if_pos h1] at h; rw [if_pos h1, if_pos h, Nat.sub_zero]
    · rw [if_neg h1] at h; exact absurd h h1
  · dsimp only at h ⊢
    unfold chkB
    by_cases h1 : tagsE b.1 = 0
    · rw [if_pos h1] at h; rw [if_pos h1, if_pos h1, if_neg h]
    · rw [if_neg h1, if_neg h1]
  · rintro ⟨x, e⟩ ⟨hx, h1, h2⟩
    dsimp only at hx h1 h2 ⊢
    refine ⟨fun hlt => ⟨fun he => ?_, fun he => ret _ (h2 he)⟩, fun hge => ret _ ?_⟩
    · subst he
      have hxl : x < b.2.1.length := by omega
      have hs := goneF_step b hxl
      have h1 := h1 rfl
      refine ⟨⟨by omega, hlt⟩, fun hb => ⟨by omega, (x + 1, 6), ⟨by show x + 1 ≤ _; omega, fun e => (by cases e), fun _ => ?_⟩, by show b.2.1.length - (x + 1) < _; omega, rfl, by show (x : Int) + 1 = ((x + 1 : Nat) : Int); omega⟩, fun hb => ⟨by omega, (x + 1, 0), ⟨by show x + 1 ≤ _; omega, fun _ => ?_, fun e => absurd rfl e⟩, by show b.2.1.length - (x + 1) < _; omega, rfl, by show (x : Int) + 1 = ((x + 1 : Nat) : Int); omega⟩⟩
      · rw [h1, hs, if_neg (by rw [show hasT b.1 (b.2.1.getD x tag0) = false from hb]; decide)]
      · show chkB b = goneF b (b.2.1.length - (x + 1)) (x + 1)
        rw [h1, hs, if_pos (show hasT b.1 (b.2.1.getD x tag0) = true from hb)]
    · by_cases he : e = 0
      · subst he
        have : x = b.2.1.length := by omega
        rw [h1 rfl, this, Nat.sub_self]; rfl
      · exact h2 he
theorem okRBag : PlainOk Tryd.prog [] 11 cRBag := by
  refine plain_of (CxOk.mk' Eb_ok (by kernel_rfl) mixed (gl := []) (GOk.cons okRTags Tryd.func35 (by kernel_rfl) (by kernel_rfl) (GOk.cons okRHas Tryd.func36 (by kernel_rfl) (by kernel_rfl) GOk.nil)) GoOk.nil noIt) Tryd.func11 (c := Tryd.f11.body.getD .skip) (rvs := [(.tmp 2, I)]) (by kernel_rfl) (by kernel_rfl) (by kernel_rfl) ?_
  intro ds k ⟨hp, hk⟩ hwf
  obtain ⟨b, rfl, -⟩ := dest1 hp
  exact ⟨anRBag b, rbag_vc b (wf1 hwf).2.1.1 k hk⟩
end Go.Proofs.YtgcliogognkdkaaDoor

/- Bags: rows put together, as the document does it. -/
namespace Go.Proofs.YtgcliogognkdkaaDoor
open Go.Vc

theorem filt_step (l : List Tag) (p : Tag → Bool) {x : Nat} (h : x < l.length) : (l.take (x + 1)).filter p = (l.take x).filter p ++ (if p (l.getD x tag0) = true then [l.getD x tag0] else []) := by
  rw [List.take_succ_eq_append_getElem h, List.filter_append, List.getD_eq_getElem?_getD, List.getElem?_eq_getElem h]
  congr 1
  cases hq : p l[x] <;> simp [hq]
theorem filt_len (l : List Tag) (p : Tag → Bool) (x : Nat) : ((l.take x).filter p).length ≤ l.length := by
  have h1 := List.length_filter_le p (l.take x)
  rw [List.length_take] at h1; omega

theorem put_vc (l : List Tag) (t : Tag) (hl : l.length ≤ 100000) (k : List Dat → Prop) (hk : k [⟨.sl tT, putL l t⟩]) : vcF ⟨Eb, [(36, cHasT), (43, cBelow)], [], [], []⟩ (anRPut l t) (Tryd.f19.body.getD .skip) Tryd.f19.ntmps [(.tmp 4, .sl tT)] [⟨.sl tT, l⟩, ⟨tT, t⟩] k := by
  rw [vcRPut]
  have e1 : ∀ y : Tag, (List.replicate 1 ((0 : Int), (0 : Int), (0 : Int), ())).set 0 y = [y] := fun _ => rfl
  have ea : ∀ (m n : List Tag), List.append m n = m ++ n := fun _ _ => rfl
  simp only [decide_eq_true_eq, decide_eq_false_iff_not, true_and, and_true, Int.toNat_natCast, inK_i64, e1, ea]
  refine ⟨fun h => ?_, fun h => ⟨⟨0, ⟨Nat.zero_le _, h⟩, rfl, rfl⟩, fun x ⟨hx, _⟩ => ⟨fun hlt => ?_, fun hge => ?_⟩⟩⟩
  · unfold putL at hk; rw [if_pos h] at hk; exact hk
  · have hxl : x < l.length := by omega
    have hst := filt_step l (fun u => decide (cmpT u t < 0)) hxl
    have hn := filt_len l (fun u => decide (cmpT u t < 0)) x
    refine ⟨⟨by omega, hlt⟩, fun hc => ⟨by omega, hlt, ?_, by omega, x + 1, ⟨by omega, h⟩, by omega, by omega, ?_⟩, fun hc => ⟨by omega, x + 1, ⟨by omega, h⟩, by omega, by omega, ?_⟩⟩
    · exact Nat.le_trans (Nat.add_le_add_right hn 1) (by omega)
    · rw [hst, if_pos (decide_eq_true (show cmpT (l.getD x tag0) t < 0 from hc))]; rfl
    · rw [hst, if_neg (by rw [decide_eq_false (show ¬ cmpT (l.getD x tag0) t < 0 from hc)]; decide), List.append_nil]
  · have hxe : x = l.length := by omega
    subst hxe
    rw [List.take_length]
    have hn := List.length_filter_le (fun u => decide (cmpT u t < 0)) l
    refine ⟨?_, ⟨0, ⟨Nat.zero_le _, h⟩, rfl, ?_⟩, fun y ⟨hy, _⟩ => ⟨fun hlt => ?_, fun hge2 => ?_⟩⟩
    · exact Nat.le_trans (Nat.add_le_add_right hn 1) (by omega)
    · simp
    · have hyl : y < l.length := by omega
      have hst := filt_step l (fun u => decide (cmpT t u < 0)) hyl
      have hm := filt_len l (fun u => decide (cmpT t u < 0)) y
      refine ⟨⟨by omega, hlt⟩, fun hc => ⟨by omega, hlt, ?_, by omega, y + 1, ⟨by omega, h⟩, by omega, by omega, ?_⟩, fun hc => ⟨by omega, y + 1, ⟨by omega, h⟩, by omega, by omega, ?_⟩⟩
      · simp only [List.length_append, List.length_cons, List.length_nil]; omega
      · rw [hst, if_pos (decide_eq_true (show cmpT t (l.getD y tag0) < 0 from hc)), List.append_assoc]; rfl
      · rw [hst, if_neg (by rw [decide_eq_false (show ¬ cmpT t (l.getD y tag0) < 0 from hc)]; decide), List.append_nil]
    · have hye : y = l.length := by omega
      subst hye
      rw [List.take_length]
      unfold putL at hk
      rw [if_neg (by rw [h]; decide)] at hk
      exact hk
theorem okRPut : PlainOk Tryd.prog [] 19 cRPut := by
  refine plain_of (CxOk.mk' Eb_ok (by kernel_rfl) mixed (gl := []) (GOk.cons okRHas Tryd.func36 (by kernel_rfl) (by kernel_rfl) (GOk.cons okBelow Tryd.func43 (by kernel_rfl) (by kernel_rfl) GOk.nil)) GoOk.nil noIt) Tryd.func19 (c := Tryd.f19.body.getD .skip) (rvs := [(.tmp 4, .sl tT)]) (by kernel_rfl) (by kernel_rfl) (by kernel_rfl) ?_
  intro ds k ⟨hp, hk⟩ hwf
  obtain ⟨l, t, rfl, hl, -⟩ := dest2 hp
  exact ⟨anRPut l t, put_vc l t hl k hk⟩

theorem filt_two : ∀ (l : List Tag) (t : Tag), (l.filter fun u => decide (cmpT u t < 0)).length + (l.filter fun u => decide (cmpT t u < 0)).length ≤ l.length
  | [], _ => Nat.le_refl _
  | x :: l, t => by
    have ih := filt_two l t
    simp only [List.filter_cons]
    by_cases h1 : cmpT x t < 0
    · have h2 : ¬ cmpT t x < 0 := fun h => ltT_asymm (cmpT_lt.1 h1) (cmpT_lt.1 h)
      simp only [h1, h2, decide_true, decide_false, if_true, Bool.false_eq_true, if_false, List.length_cons]; omega
    · by_cases h2 : cmpT t x < 0
      · simp only [h1, h2, decide_true, decide_false, if_true, Bool.false_eq_true, if_false, List.length_cons]; omega
      · simp only [h1, h2, decide_false, Bool.false_eq_true, if_false, List.length_cons]; omega
theorem putL_len (l : List Tag) (t : Tag) : (putL l t).length ≤ l.length + 1 := by
  unfold putL
  split
  · omega
  · have := filt_two l t
    simp only [List.length_append, List.length_cons, List.length_nil]; omega
theorem allU_len (a b : List Tag) : ∀ i, (allU a b i).length ≤ a.length + i
  | 0 => Nat.le_refl _
  | i + 1 => by
    have h1 := allU_len a b i
    have h2 := putL_len (allU a b i) (b.getD i tag0)
    unfold allU; omega
theorem all_vc (a b : List Tag) (hl : a.length + b.length ≤ 10000) (k : List Dat → Prop) (hk : k [⟨.sl tT, allU a b b.length⟩]) : vcF ⟨Eb, [(19, cRPut)], [], [], []⟩ (anRAll a b) (Tryd.f21.body.getD .skip) Tryd.f21.ntmps [(.tmp 4, .sl tT)] [⟨.sl tT, a⟩, ⟨.sl tT, b⟩] k := by
  rw [vcRAll]
  simp only [decide_eq_true_eq, decide_eq_false_iff_not, true_and, and_true, Int.toNat_natCast, inK_i64]
  refine ⟨⟨0, Nat.zero_le _, rfl, rfl⟩, fun x hx => ⟨fun hlt => ?_, fun hge => ?_⟩⟩
  · have h1 := allU_len a b x
    exact ⟨by omega, hlt, by omega, by omega, x + 1, by omega, by omega, rfl, by omega⟩
  · have : x = b.length := by omega
    rw [this]; exact hk
theorem okRAll : PlainOk Tryd.prog [] 21 cRAll := by
  refine plain_of (CxOk.mk' Eb_ok (by kernel_rfl) mixed (gl := []) (GOk.cons okRPut Tryd.func19 (by kernel_rfl) (by kernel_rfl) GOk.nil) GoOk.nil noIt) Tryd.func21 (c := Tryd.f21.body.getD .skip) (rvs := [(.tmp 4, .sl tT)]) (by kernel_rfl) (by kernel_rfl) (by kernel_rfl) ?_
  intro ds k ⟨hp, hk⟩ hwf
  obtain ⟨a, b, rfl, hl, -⟩ := dest2 hp
  exact ⟨anRAll a b, all_vc a b hl k hk⟩

theorem next_vc (b : Bag) (n : Int) (ht : tagsE b.1 = 0) (k : List Dat → Prop) (hk : k [⟨I, maxC b.1 n b.1.length + 1⟩]) : vcF ⟨Eb, [], [], [], []⟩ (anRNext b n) (Tryd.f18.body.getD .skip) Tryd.f18.ntmps [(.tmp 4, I)] [⟨tB, b⟩, ⟨I, n⟩] k := by
  rw [vcRNext]
  have hlen := tags_len ht
  have hin := maxC_in ht n
  simp only [decide_eq_true_eq, decide_eq_false_iff_not, true_and, and_true, Int.toNat_natCast, inK_i64]
  refine ⟨⟨0, Nat.zero_le _, rfl, rfl⟩, fun x hx => ⟨fun hlt => ?_, fun hge => ?_⟩⟩
  · have hxl : x < b.1.length := by omega
    have e0 : b.1.getD x ((0 : Int), (0 : Int), (0 : Int), ()) = b.1.getD x tag0 := rfl
    have hm : maxC b.1 n (x + 1) = if (b.1.getD x tag0).2.1 = n then max (maxC b.1 n x) (b.1.getD x tag0).2.2.1 else maxC b.1 n x := rfl
    simp only [e0]
    refine ⟨by omega, hlt, fun he => ⟨by omega, hlt, fun hg => ⟨by omega, hlt, by omega, x + 1, by omega, by omega, ?_, by omega⟩, fun hg => ⟨by omega, x + 1, by omega, by omega, ?_, by omega⟩⟩, fun he => ⟨by omega, x + 1, by omega, by omega, ?_, by omega⟩⟩
    · rw [hm, if_pos he]; omega
    · rw [hm, if_pos he]; omega
    · rw [hm, if_neg he]
  · have hxe : x = b.1.length := by omega
    subst hxe
    have := hin b.1.length (Nat.le_refl _)
    exact ⟨by omega, hk⟩
theorem okRNext : PlainOk Tryd.prog [] 18 cRNext := by
  refine plain_of (CxOk.mk' Eb_ok (by kernel_rfl) mixed (gl := []) GOk.nil GoOk.nil noIt) Tryd.func18 (c := Tryd.f18.body.getD .skip) (rvs := [(.tmp 4, I)]) (by kernel_rfl) (by kernel_rfl) (by kernel_rfl) ?_
  intro ds k ⟨hp, hk⟩ hwf
  obtain ⟨b, n, rfl, ht, -⟩ := dest2 hp
  exact ⟨anRNext b n, next_vc b n ht k hk⟩

theorem goneU_len (b : Bag) (e : Int) : ∀ i, (goneU b e i).length ≤ b.2.1.length + i
  | 0 => Nat.le_refl _
  | i + 1 => by
    have h1 := goneU_len b e i
    have h2 := putL_len (goneU b e i) (b.1.getD i tag0)
    unfold goneU
    split <;> omega
theorem dropped_vc (b : Bag) (e : Int) (hl : b.1.length + b.2.1.length ≤ 10000) (k : List Dat → Prop) (hk : k [⟨tB, ((b.1, goneU b e b.1.length, ()) : Bag)⟩]) : vcF ⟨Eb, [(19, cRPut)], [], [], []⟩ (anRDropped b e) (Tryd.f15.body.getD .skip) Tryd.f15.ntmps [(.cell 4 25, tB)] [⟨tB, b⟩, ⟨I, e⟩] k := by
  rw [vcRDropped]
  simp only [decide_eq_true_eq, decide_eq_false_iff_not, true_and, and_true, Int.toNat_natCast, inK_i64]
  refine ⟨⟨0, Nat.zero_le _, rfl, rfl, rfl⟩, fun x hx => ⟨fun hlt => ?_, fun hge => ?_⟩⟩
  · have hxl : x < b.1.length := by omega
    have h1 := goneU_len b e x
    have hm : goneU b e (x + 1) = if (b.1.getD x tag0).1 = e then putL (goneU b e x) (b.1.getD x tag0) else goneU b e x := rfl
    refine ⟨by omega, hlt, fun he => ⟨⟨by omega, hlt, by omega⟩, by omega, x + 1, by omega, by omega, by omega, ?_⟩, fun he => ⟨by omega, x + 1, by omega, by omega, by omega, ?_⟩⟩
    · rw [hm, if_pos (show (b.1.getD x tag0).1 = e from he)]; rfl
    · rw [hm, if_neg (show ¬ (b.1.getD x tag0).1 = e from he)]
  · have hxe : x = b.1.length := by omega
    subst hxe; exact hk
theorem okRDropped : PlainOk Tryd.prog [] 15 cRDropped := by
  refine plain_of (CxOk.mk' Eb_ok (by kernel_rfl) mixed (gl := []) (GOk.cons okRPut Tryd.func19 (by kernel_rfl) (by kernel_rfl) GOk.nil) GoOk.nil noIt) Tryd.func15 (c := Tryd.f15.body.getD .skip) (rvs := [(.cell 4 25, tB)]) (by kernel_rfl) (by kernel_rfl) (by kernel_rfl) ?_
  intro ds k ⟨hp, hk⟩ hwf
  obtain ⟨b, e, rfl, hl, -⟩ := dest2 hp
  exact ⟨anRDropped b e, dropped_vc b e hl k hk⟩

theorem elsR_len (b : Bag) (n : Nat) : (elsR b n).length ≤ n := by
  unfold elsR
  rw [List.length_map]
  have := List.length_filter_le (fun (e : Nat) => hereU b (e : Int) b.1.length) (List.range n)
  rw [List.length_range] at this; exact this
theorem elsR_succ (b : Bag) (n : Nat) : elsR b (n + 1) = elsR b n ++ (if hereU b (n : Int) b.1.length = true then [(n : Int)] else []) := by
  unfold elsR
  rw [List.range_succ, List.filter_append, List.map_append]
  congr 1
  cases hq : hereU b (n : Int) b.1.length <;> simp [hq]
theorem relems_vc (b : Bag) (hl : b.1.length ≤ maxLen) (k : List Dat → Prop) (hk : k [⟨.sl I, elsR b 10⟩]) : vcF ⟨Eb, [(36, cHasT)], [], [], []⟩ (anRElems b) (Tryd.f13.body.getD .skip) Tryd.f13.ntmps [(.tmp 2, .sl I)] [⟨tB, b⟩] k := by
  rw [vcRElems]
  have hml : maxLen ≤ 9223372036854775807 := by decide
  have e1 : ∀ y : Int, (List.replicate 1 (0 : Int)).set 0 y = [y] := fun _ => rfl
  have ea : ∀ (m n : List Int), List.append m n = m ++ n := fun _ _ => rfl
  simp only [decide_eq_true_eq, decide_eq_false_iff_not, true_and, and_true, Int.toNat_natCast, inK_i64, e1, ea, implies_true]
  refine ⟨⟨0, Nat.zero_le _, rfl, rfl⟩, fun x hx => ⟨fun hlt => ⟨⟨0, Nat.zero_le _, rfl, rfl⟩, fun y hy => ⟨fun hly => ?_, fun hgy => ?_⟩⟩, fun hge => ?_⟩⟩
  · exact ⟨fun _ => ⟨by omega, hly, fun _ => ⟨by omega, hly⟩⟩, by omega, y + 1, by omega, by omega, rfl, by omega⟩
  · have hye : y = b.1.length := by omega
    subst hye
    have hn := elsR_len b x
    have hs := elsR_succ b x
    refine ⟨fun hh => ⟨?_, by omega, x + 1, by omega, by omega, by omega, ?_⟩, fun hh => ⟨by omega, x + 1, by omega, by omega, by omega, ?_⟩⟩
    · simp only [List.length_cons, List.length_nil]; omega
    · rw [hs, if_pos hh]
    · rw [hs, if_neg (by rw [hh]; decide), List.append_nil]
  · have hxe : x = 10 := by omega
    subst hxe; exact hk
theorem okRElems : PlainOk Tryd.prog [] 13 cRElems := by
  refine plain_of (CxOk.mk' Eb_ok (by kernel_rfl) mixed (gl := []) (GOk.cons okRHas Tryd.func36 (by kernel_rfl) (by kernel_rfl) GOk.nil) GoOk.nil noIt) Tryd.func13 (c := Tryd.f13.body.getD .skip) (rvs := [(.tmp 2, .sl I)]) (by kernel_rfl) (by kernel_rfl) (by kernel_rfl) ?_
  intro ds k ⟨hp, hk⟩ hwf
  obtain ⟨b, rfl, -⟩ := dest1 hp
  exact ⟨anRElems b, relems_vc b (wf1 hwf).1.1 k hk⟩

/-! What they come to where a bag is one. -/
theorem putL_ins {l : List Tag} (h : SS l) (t : Tag) : putL l t = srt (l ++ [t]) := by
  symm
  have hmem : ∀ u, u ∈ putL l t ↔ u ∈ l ++ [t] := by
    intro u
    unfold putL
    split
    · rename_i hh
      have := hasT_iff.1 hh
      rw [List.mem_append, List.mem_singleton]
      exact ⟨.inl, fun h => h.elim id fun e => e ▸ this⟩
    · simp only [List.mem_append, List.mem_filter, List.mem_singleton, decide_eq_true_eq]
      constructor
      · rintro ((h | h) | h)
        · exact .inl h.1
        · exact .inr h
        · exact .inl h.1
      · rintro (h | h)
        · by_cases h1 : cmpT u t < 0
          · exact .inl (.inl ⟨h, h1⟩)
          · by_cases h2 : cmpT t u < 0
            · exact .inr ⟨h, h2⟩
            · exact .inl (.inr (ltT_tri (fun e => h1 (cmpT_lt.2 e)) fun e => h2 (cmpT_lt.2 e)))
        · exact .inl (.inr h)
  refine srt_eq ?_ hmem
  unfold putL
  split
  · exact h
  · refine List.pairwise_append.2 ⟨List.pairwise_append.2 ⟨h.filter _, by simp, fun a ha b hb => ?_⟩, h.filter _, fun a ha b hb => ?_⟩
    · rw [List.mem_singleton] at hb; subst hb
      exact cmpT_lt.1 (by simpa using (List.mem_filter.1 ha).2)
    · have hb := cmpT_lt.1 (by simpa using (List.mem_filter.1 hb).2)
      rcases List.mem_append.1 ha with ha | ha
      · exact ltT_trans (cmpT_lt.1 (by simpa using (List.mem_filter.1 ha).2)) hb
      · rw [List.mem_singleton] at ha; subst ha; exact hb
theorem allU_srt {a : List Tag} (h : SS a) (b : List Tag) : ∀ i, i ≤ b.length → allU a b i = srt (a ++ b.take i)
  | 0, _ => by rw [List.take_zero, List.append_nil]; exact (srt_self h).symm
  | i + 1, hi => by
    have ih := allU_srt h b i (by omega)
    unfold allU
    rw [ih, putL_ins (ss_srt _)]
    refine srt_ext fun u => ?_
    rw [List.mem_append, mem_srt, List.take_succ_eq_append_getElem (show i < b.length by omega), List.getD_eq_getElem?_getD, List.getElem?_eq_getElem (show i < b.length by omega)]
    simp only [List.mem_append, List.mem_singleton, or_assoc, Option.getD_some]
theorem goneU_srt {b : Bag} (h : SS b.2.1) (e : Int) : ∀ i, i ≤ b.1.length → goneU b e i = srt (b.2.1 ++ ofE (b.1.take i) e)
  | 0, _ => by
    rw [List.take_zero]
    show b.2.1 = srt (b.2.1 ++ [])
    rw [List.append_nil, srt_self h]
  | i + 1, hi => by
    have ih := goneU_srt h e i (by omega)
    have hst := ofE_step b.1 e (show i < b.1.length by omega)
    unfold goneU
    rw [ih, hst]
    split
    · rw [putL_ins (ss_srt _)]
      refine srt_ext fun u => ?_
      rw [List.mem_append, mem_srt]
      simp [or_assoc]
    · rw [List.append_nil]
theorem hereU_iff {b : Bag} {e : Int} : ∀ n, n ≤ b.1.length → (hereU b e n = true ↔ ∃ t ∈ b.1.take n, t ∉ b.2.1 ∧ t.1 = e)
  | 0, _ => by simp [hereU]
  | n + 1, hn => by
    have ih := hereU_iff (b := b) (e := e) n (by omega)
    have e1 : b.1.take (n + 1) = b.1.take n ++ [b.1.getD n tag0] := by
      rw [List.take_succ_eq_append_getElem (show n < b.1.length by omega), List.getD_eq_getElem?_getD, List.getElem?_eq_getElem (show n < b.1.length by omega)]; rfl
    rw [e1]
    unfold hereU
    generalize b.1.getD n tag0 = x
    rw [Bool.or_eq_true, ih, Bool.and_eq_true, Bool.not_eq_true', decide_eq_true_eq]
    have hf : hasT b.2.1 x = false ↔ x ∉ b.2.1 := by
      rw [← hasT_iff]; cases hasT b.2.1 x <;> simp
    rw [hf]
    constructor
    · rintro (⟨t, ht, h2⟩ | ⟨h1, h2⟩)
      · exact ⟨t, List.mem_append.2 (.inl ht), h2⟩
      · exact ⟨x, List.mem_append.2 (.inr (List.mem_singleton.2 rfl)), h2, h1⟩
    · rintro ⟨t, ht, h2, h3⟩
      rcases List.mem_append.1 ht with h | h
      · exact .inl ⟨t, h, h2, h3⟩
      · rw [List.mem_singleton] at h; subst h; exact .inr ⟨h3, h2⟩
theorem incr_ext : ∀ {l m : List Int}, l.Pairwise (· < ·) → m.Pairwise (· < ·) → (∀ t, t ∈ l ↔ t ∈ m) → l = m
  | [], [], _, _, _ => rfl
  | [], y :: m, _, _, h => absurd ((h y).2 (List.mem_cons_self ..)) (by simp)
  | x :: l, [], _, _, h => absurd ((h x).1 (List.mem_cons_self ..)) (by simp)
  | x :: l, y :: m, hl, hm, h => by
    obtain ⟨hl1, hl2⟩ := List.pairwise_cons.1 hl
    obtain ⟨hm1, hm2⟩ := List.pairwise_cons.1 hm
    have hxy : x = y := by
      rcases List.mem_cons.1 ((h x).1 (List.mem_cons_self ..)) with e | e
      · exact e
      · rcases List.mem_cons.1 ((h y).2 (List.mem_cons_self ..)) with e2 | e2
        · exact e2.symm
        · have := hl1 y e2; have := hm1 x e; omega
    subst hxy
    congr 1
    refine incr_ext hl2 hm2 fun t => ⟨fun ht => ?_, fun ht => ?_⟩
    · rcases List.mem_cons.1 ((h t).1 (List.mem_cons_of_mem _ ht)) with e | e
      · subst e; have := hl1 t ht; omega
      · exact e
    · rcases List.mem_cons.1 ((h t).2 (List.mem_cons_of_mem _ ht)) with e | e
      · subst e; have := hm1 t ht; omega
      · exact e
theorem elemsU_incr {b : Bag} (h : SS b.1) : ∀ n, n ≤ b.1.length → (elemsU b n).Pairwise (· < ·) ∧ ∀ x ∈ elemsU b n, ∀ j, n ≤ j → j < b.1.length → x ≤ (b.1.getD j tag0).1
  | 0, _ => ⟨List.Pairwise.nil, fun x hx => by cases hx⟩
  | n + 1, hn => by
    obtain ⟨h1, h2⟩ := elemsU_incr h n (by omega)
    have hle : ∀ j, n < j → j < b.1.length → (b.1.getD n tag0).1 ≤ (b.1.getD j tag0).1 := fun j h3 h4 => by
      have := List.pairwise_iff_getElem.1 h n j (by omega) h4 h3
      rw [List.getD_eq_getElem?_getD, List.getD_eq_getElem?_getD, List.getElem?_eq_getElem h4, List.getElem?_eq_getElem (show n < b.1.length by omega)]
      unfold ltT at this
      simp only [Option.getD_some]; omega
    unfold elemsU
    split
    · rename_i hc
      simp only [Bool.and_eq_true, Bool.not_eq_true'] at hc
      have hni : (b.1.getD n tag0).1 ∉ elemsU b n := fun hm => by rw [hasI_iff.2 hm] at hc; cases hc.2
      refine ⟨List.pairwise_append.2 ⟨h1, by simp, fun x hx y hy => ?_⟩, fun x hx j h3 h4 => ?_⟩
      · rw [List.mem_singleton] at hy; subst hy
        have := h2 x hx n (Nat.le_refl _) (by omega)
        rcases Int.lt_or_eq_of_le this with h | h
        · exact h
        · rw [h] at hx; exact absurd hx hni
      · rcases List.mem_append.1 hx with hx | hx
        · exact h2 x hx j (by omega) h4
        · rw [List.mem_singleton] at hx; subst hx; exact hle j (by omega) h4
    · exact ⟨h1, fun x hx j h3 h4 => h2 x hx j (by omega) h4⟩
theorem elsR_eq {b : Bag} (h : chkB b = 0) : elsR b 10 = elems b := by
  have g := chk_iff.1 h
  have e1 : elems b = elemsU b b.1.length := by unfold elems; rw [if_pos h]
  refine incr_ext ?_ (by rw [e1]; exact (elemsU_incr g.has.ss _ (Nat.le_refl _)).1) fun t => ?_
  · unfold elsR
    rw [List.pairwise_map]
    refine (List.Pairwise.filter _ List.pairwise_lt_range).imp fun h => ?_
    omega
  · rw [elems_iff h]
    unfold elsR
    simp only [List.mem_map, List.mem_filter, List.mem_range]
    constructor
    · rintro ⟨m, ⟨h1, h2⟩, rfl⟩
      have := (hereU_iff (b := b) (e := (m : Int)) b.1.length (Nat.le_refl _)).1 h2
      rwa [List.take_length] at this
    · rintro ⟨u, hu, h2, h3⟩
      have hi := tagIn_iff.1 (g.has.inn u hu)
      have e2 : ((t.toNat : Nat) : Int) = t := by omega
      refine ⟨t.toNat, ⟨by omega, ?_⟩, e2⟩
      rw [e2, hereU_iff b.1.length (Nat.le_refl _), List.take_length]
      exact ⟨u, hu, h2, h3⟩
end Go.Proofs.YtgcliogognkdkaaDoor

/- Bags and counters: the document's answers, all: the law holds. -/
namespace Go.Proofs.YtgcliogognkdkaaDoor
open Go.Vc

/-! Counters. -/
theorem cntF_zero {l : List Int} : ∀ (f i : Nat), (∀ j, i ≤ j → j < i + f → 0 ≤ l.getD j 0 ∧ l.getD j 0 ≤ 1000000) → cntF l f i = 0
  | 0, _, _ => rfl
  | f + 1, i, h => by
    unfold cntF
    rw [if_pos (by have := h i (Nat.le_refl _) (by omega); unfold inB; rw [decide_eq_true this.1, decide_eq_true this.2]; rfl)]
    exact cntF_zero f (i + 1) fun j h1 h2 => h j (by omega) (by omega)
theorem cnt_mk {l : List Int} (h1 : 1 ≤ l.length) (h2 : l.length ≤ 5) (h : ∀ j, j < l.length → 0 ≤ l.getD j 0 ∧ l.getD j 0 ≤ 1000000) : cntE l = 0 := by
  unfold cntE
  rw [if_neg (by omega), if_neg (by omega)]
  exact cntF_zero _ _ fun j _ hj => h j (by omega)
theorem mostE_iff {v w : List Int} : mostE v w = 0 ↔ cntE v = 0 ∧ cntE w = 0 ∧ v.length = w.length := by
  unfold mostE
  by_cases h1 : cntE v = 0
  · rw [if_pos h1]
    by_cases h2 : cntE w = 0
    · rw [if_pos h2]
      by_cases h3 : v.length = w.length
      · rw [if_pos h3]; exact ⟨fun _ => ⟨h1, h2, h3⟩, fun _ => rfl⟩
      · rw [if_neg h3]; exact ⟨fun e => (by cases e), fun e => absurd e.2.2 h3⟩
    · rw [if_neg h2]; exact ⟨fun e => absurd e h2, fun e => absurd e.2.1 h2⟩
  · rw [if_neg h1]; exact ⟨fun e => absurd e h1, fun e => absurd e.1 h1⟩
theorem getD_set_eq {α : Type} (l : List α) (i : Nat) (x d : α) (h : i < l.length) : (l.set i x).getD i d = x := by
  rw [List.getD_eq_getElem?_getD, List.getElem?_set_self h]; rfl
theorem mostU_get {v w : List Int} : ∀ n, n ≤ v.length → ∀ j, j < v.length → (mostU v w n).getD j 0 = if j < n then max (v.getD j 0) (w.getD j 0) else v.getD j 0
  | 0, _, j, _ => by simp [mostU]
  | n + 1, hn, j, hj => by
    have ih := mostU_get (v := v) (w := w) n (by omega)
    unfold mostU
    by_cases hjn : n = j
    · subst hjn
      rw [getD_set_eq _ _ _ _ (by rw [mostU_len]; omega), ih n hj, if_neg (by omega), if_pos (by omega)]
    · rw [getD_set_of _ _ _ _ _ hjn, ih j hj]
      by_cases hlt : j < n
      · rw [if_pos hlt, if_pos (by omega)]
      · rw [if_neg hlt, if_neg (by omega)]
theorem list_ext0 {l m : List Int} (h : l.length = m.length) (he : ∀ j, j < l.length → l.getD j 0 = m.getD j 0) : l = m := by
  apply List.ext_getElem h
  intro j h1 h2
  have := he j h1
  rwa [List.getD_eq_getElem?_getD, List.getD_eq_getElem?_getD, List.getElem?_eq_getElem h1, List.getElem?_eq_getElem h2] at this
theorem mostR_len {v w : List Int} (h : mostE v w = 0) : (mostR v w).length = v.length := by unfold mostR; rw [if_pos h, mostU_len]
theorem mostR_get {v w : List Int} (h : mostE v w = 0) {j : Nat} (hj : j < v.length) : (mostR v w).getD j 0 = max (v.getD j 0) (w.getD j 0) := by
  have hl := (mostE_iff.1 h).2.2
  unfold mostR
  rw [if_pos h, mostU_get w.length (by omega) j hj, if_pos (by omega)]
theorem ups {v : List Int} {n : Int} (h : upE v n = 0) : cntE v = 0 ∧ (0 ≤ n ∧ n < (v.length : Int)) ∧ upR v n = v.set n.toNat (v.getD n.toNat 0 + 1) ∧ v.getD n.toNat 0 ≠ 1000000 := by
  have hR : upR v n = v.set n.toNat (v.getD n.toNat 0 + 1) := by unfold upR; rw [if_pos h]
  unfold upE at h
  by_cases h1 : cntE v = 0
  · rw [if_pos h1] at h
    by_cases h2 : inB n 0 ((v.length : Int) - 1) = true
    · rw [if_pos h2] at h
      have hn : 0 ≤ n ∧ n < (v.length : Int) := by
        unfold inB at h2
        simp only [Bool.and_eq_true, decide_eq_true_eq] at h2; omega
      by_cases h3 : v.getD n.toNat 0 = 1000000
      · rw [if_pos h3] at h; cases h
      · exact ⟨h1, hn, hR, h3⟩
    · rw [if_neg h2] at h; cases h
  · rw [if_neg h1] at h; exact absurd h h1


theorem mostP_len (v w : List Int) : ∀ i, (mostP v w i).length = i
  | 0 => rfl
  | i + 1 => by unfold mostP; rw [List.length_append, mostP_len v w i]; rfl
theorem mostP_get {v w : List Int} : ∀ i j, j < i → (mostP v w i).getD j 0 = max (v.getD j 0) (w.getD j 0)
  | 0, j, h => by omega
  | i + 1, j, h => by
    unfold mostP
    by_cases hj : j < i
    · rw [List.getD_eq_getElem?_getD, List.getElem?_append_left (by rw [mostP_len]; exact hj), ← List.getD_eq_getElem?_getD]
      exact mostP_get i j hj
    · have : j = i := by omega
      subst this
      rw [List.getD_eq_getElem?_getD, List.getElem?_append_right (by rw [mostP_len]; omega), mostP_len, Nat.sub_self]; rfl
theorem mostP_all {v w : List Int} (h : mostE v w = 0) : mostP v w v.length = mostR v w := by
  refine list_ext0 (by rw [mostP_len, mostR_len h]) fun j hj => ?_
  rw [mostP_len] at hj
  rw [mostP_get _ _ hj, mostR_get h hj]
theorem cntE_in (l : List Int) : 0 ≤ cntE l ∧ cntE l ≤ 5 := by
  have h : ∀ f i, 0 ≤ cntF l f i ∧ cntF l f i ≤ 5 := by
    intro f
    induction f with
    | zero => intro i; show (0 : Int) ≤ 0 ∧ (0 : Int) ≤ 5; omega
    | succ f ih => intro i; unfold cntF; split; exact ih _; omega
  unfold cntE
  split
  · omega
  · split
    · omega
    · exact h _ _
theorem tagE_in (l : List Tag) (i : Nat) : 0 ≤ tagE l i ∧ tagE l i ≤ 3 := by
  unfold tagE
  split
  · omega
  · split <;> omega
theorem tagsE_in (l : List Tag) : 0 ≤ tagsE l ∧ tagsE l ≤ 4 := by
  have h : ∀ f i, 0 ≤ tagsF l f i ∧ tagsF l f i ≤ 4 := by
    intro f
    induction f with
    | zero => intro i; show (0 : Int) ≤ 0 ∧ (0 : Int) ≤ 4; omega
    | succ f ih =>
      intro i
      have := tagE_in l i
      unfold tagsF
      split
      · exact ih _
      · omega
  unfold tagsE
  split
  · omega
  · exact h _ _
theorem chkB_in (b : Bag) : 0 ≤ chkB b ∧ chkB b ≤ 6 := by
  have h1 := tagsE_in b.1
  have h2 := tagsE_in b.2.1
  have h3 := goneF_6 (b := b) b.2.1.length 0
  unfold chkB
  split
  · split
    · omega
    · omega
  · omega

theorem lawS_vc (v w : List Int) (a b : Bag) (e n : Int) (hl : v.length ≤ maxLen) (k : List Dat → Prop) (hk : k [⟨.bool, true⟩]) :
    vcF ⟨Eb, [(5, cRCounts), (6, cError), (7, cCounts), (8, cUp), (9, cInts), (10, cMost), (11, cRBag), (12, cCheck), (13, cRElems), (14, cElems), (15, cRDropped), (16, cDrop), (17, cSameB), (18, cRNext), (19, cRPut), (20, cAdd), (21, cRAll), (22, cJoin)], glE, [], []⟩ (anLawS v w a b e n) (Tryd.f3.body.getD .skip) Tryd.f3.ntmps [(.tmp 12, .bool)] [⟨.sl I, v⟩, ⟨.sl I, w⟩, ⟨tB, a⟩, ⟨tB, b⟩, ⟨I, e⟩, ⟨I, n⟩] k := by
  rw [vcLawS]
  have e1 : ∀ y : Int, (List.replicate 1 (0 : Int)).set 0 y = [y] := fun _ => rfl
  have ea : ∀ (m n : List Int), List.append m n = m ++ n := fun _ _ => rfl
  simp only [decide_eq_true_eq, decide_eq_false_iff_not, true_and, and_true, Bool.not_eq_true', Bool.not_eq_false', Int.toNat_natCast, e1, ea, exists_const, forall_const, decide_true, not_true_eq_false, Bool.true_eq_false, Bool.false_eq_true, false_implies, Bool.and_self, hk, implies_true]
  have c1 := cntE_in v
  have c2 := cntE_in w
  have c3 := chkB_in a
  have c4 := chkB_in b
  have hU : cntE v = 0 → upE v n = if inB n 0 ((v.length : Int) - 1) = true then (if v.getD n.toNat 0 = 1000000 then 4 else 0) else 1 := fun h => by unfold upE; rw [if_pos h]
  have hUn : cntE v ≠ 0 → upE v n = cntE v := fun h => by unfold upE; rw [if_neg h]
  have hin : inB n 0 ((v.length : Int) - 1) = true ↔ 0 ≤ n ∧ n < (v.length : Int) := by
    unfold inB; rw [Bool.and_eq_true, decide_eq_true_eq, decide_eq_true_eq]; omega
  have hUin : 0 ≤ upE v n ∧ upE v n ≤ 6 := by
    by_cases h : cntE v = 0
    · rw [hU h]; split; split <;> omega; omega
    · rw [hUn h]; omega
  have hM : 0 ≤ mostE v w ∧ mostE v w ≤ 6 := by unfold mostE; (repeat' split) <;> omega
  have hD : dropE a e = if chkB a = 0 then (if 0 ≤ e ∧ e ≤ 9 then 0 else 1) else chkB a := by
    unfold dropE inB
    simp only [Bool.and_eq_true, decide_eq_true_eq]
  have hDin : 0 ≤ dropE a e ∧ dropE a e ≤ 6 := by rw [hD]; (repeat' split) <;> omega
  have hA : addE a e n = if chkB a = 0 then (if (0 ≤ e ∧ e ≤ 9) ∧ (0 ≤ n ∧ n ≤ 4) then (if a.1.length = 24 ∨ maxC a.1 n a.1.length = 1000000 then 4 else 0) else 1) else chkB a := by
    unfold addE inB
    simp only [Bool.and_eq_true, decide_eq_true_eq]
  have hAin : 0 ≤ addE a e n ∧ addE a e n ≤ 6 := by rw [hA]; (repeat' split) <;> omega
  have hJin : 0 ≤ joinE a b ∧ joinE a b ≤ 6 := by unfold joinE; (repeat' split) <;> omega
  have hF : upF v n = if cntE v = 0 ∧ (n < 0 ∨ (v.length : Int) ≤ n) then 1 else cntE v := rfl
  refine ⟨inK_i64.2 (by omega), ⟨fun h => ⟨fun h1 => ?_, fun h1 => ⟨fun h2 => ?_, fun h2 => ?_⟩⟩, fun h => ?_⟩, ⟨fun h => ?_, fun h => ?_⟩, ⟨fun h => ?_, fun h => ?_⟩, inK_i64.2 (by omega), ⟨fun h => ?_, fun h => ?_⟩, ⟨fun h => ⟨fun h1 => ?_, fun h1 => ?_⟩, fun h => ?_⟩, ⟨⟨0, ⟨Nat.zero_le _, .inr rfl⟩, rfl, rfl⟩, fun x ⟨hx, hx0⟩ => ⟨fun hlt => ⟨fun he => ?_, fun he => ?_⟩, fun hge => ?_⟩⟩, inK_i64.2 (by omega), inK_i64.2 (by omega), ⟨fun h => elsR_eq h, fun h => ?_⟩, inK_i64.2 (by omega), ⟨fun h => ⟨fun h1 => ?_, fun h1 => ⟨fun h2 => ?_, fun h2 => ?_⟩⟩, fun h => ?_⟩, ⟨fun h => ?_, fun h => ?_⟩, inK_i64.2 (by omega), ⟨fun h => ⟨fun h1 => ?_, fun h1 => ⟨fun h2 => ?_, fun h2 => ?_⟩⟩, fun h => ?_⟩, ⟨fun h => ?_, fun h => ?_⟩, ⟨fun h => ?_, fun h => ?_⟩, inK_i64.2 (by omega), ⟨fun h => ?_, fun h => ?_⟩, ⟨fun h => ?_, fun h => ?_⟩, inK_i64.2 (by omega)⟩
  · rw [hF, if_pos ⟨h, .inl h1⟩]
  · rw [hF, if_pos ⟨h, .inr h2⟩]
  · rw [hF, if_neg (by omega)]
  · rw [hF, if_neg (by omega)]
  · have h0 : cntE v = 0 ∧ 0 ≤ n ∧ n < (v.length : Int) := by
      rw [hF] at h
      by_cases hc : cntE v = 0 ∧ (n < 0 ∨ (v.length : Int) ≤ n)
      · rw [if_pos hc] at h; cases h
      · rw [if_neg hc] at h; omega
    have hv := cnt_all h0.1 n.toNat (by omega)
    rw [h, hU h0.1, if_pos (hin.2 h0.2)]
    refine ⟨h0.2.1, h0.2.2, fun h1 => ?_, fun h1 => ?_⟩
    · rw [if_pos (by omega)]
    · rw [if_neg (by omega)]
  · rw [hF] at h ⊢
    by_cases hc : cntE v = 0 ∧ (n < 0 ∨ (v.length : Int) ≤ n)
    · rw [if_pos hc, hU hc.1, if_neg (fun e => by have := hin.1 e; omega)]
    · rw [if_neg hc] at h ⊢
      rw [hUn h]
  · obtain ⟨u1, u2, u3, u4⟩ := ups h
    have hv := cnt_all u1 n.toNat (by omega)
    have hlv := cnt_len u1
    exact ⟨by omega, u2.1, u2.2, inK_i64.2 (by omega), u2.1, u2.2, u3.symm⟩
  · unfold upR; rw [if_neg h]
  · unfold mostF; rw [if_pos h]
  · unfold mostF; rw [if_neg h]
  · unfold mostF at h; unfold mostE
    by_cases hc : cntE v = 0
    · rw [if_pos hc] at h; rw [if_pos hc, if_pos h, if_neg (by omega)]
    · rw [if_neg hc] at h; exact absurd h hc
  · rw [h]
    unfold mostF at h; unfold mostE
    by_cases hc : cntE v = 0
    · rw [if_pos hc] at h; rw [if_pos hc, if_pos h, if_pos (by omega)]
    · rw [if_neg hc] at h; exact absurd h hc
  · unfold mostF at h ⊢; unfold mostE
    by_cases hc : cntE v = 0
    · rw [if_pos hc] at h ⊢; rw [if_pos hc, if_neg h]
    · rw [if_neg hc] at h ⊢; rw [if_neg hc]
  · obtain ⟨m1, m2, m3⟩ := mostE_iff.1 he
    have hlv := cnt_len m1
    have hml : maxLen ≤ 9223372036854775807 := by decide
    have hp := mostP_len v w x
    have hxl : x < v.length := by omega
    refine ⟨by omega, hlt, by omega, by omega, fun hc => ⟨by omega, by omega, ?_, inK_i64.2 (by omega), x + 1, ⟨by omega, .inl he⟩, by omega, by omega, ?_⟩, fun hc => ⟨?_, inK_i64.2 (by omega), x + 1, ⟨by omega, .inl he⟩, by omega, by omega, ?_⟩⟩
    · rw [hp]; simp only [List.length_cons, List.length_nil]; omega
    · show _ = mostP v w x ++ [max (v.getD x 0) (w.getD x 0)]
      rw [show max (v.getD x 0) (w.getD x 0) = w.getD x 0 by omega]
    · rw [hp]; simp only [List.length_cons, List.length_nil]; omega
    · show _ = mostP v w x ++ [max (v.getD x 0) (w.getD x 0)]
      rw [show max (v.getD x 0) (w.getD x 0) = v.getD x 0 by omega]
  · have : x = 0 := hx0.elim (fun h => absurd h he) id
    subst this
    unfold mostR; rw [if_neg he]; rfl
  · have hxe : x = v.length := by omega
    by_cases he : mostE v w = 0
    · rw [hxe]; exact mostP_all he
    · have : x = 0 := hx0.elim (fun h => absurd h he) id
      rw [this]
      unfold mostR; rw [if_neg he]; rfl
  · unfold elems; rw [if_neg h]
  · rw [hD, if_pos h, if_neg (by omega)]
  · rw [hD, if_pos h, if_neg (by omega)]
  · rw [hD, if_pos h, if_pos (by omega)]; exact h
  · rw [hD, if_neg h]
  · have g := (dropE_iff.1 h).1
    have gl1 := g.has.len
    have gl2 := g.gone.len
    refine ⟨by omega, ?_⟩
    unfold dropB; rw [if_pos h, goneU_srt g.gone.ss e _ (Nat.le_refl _), List.take_length]
  · unfold dropB; rw [if_neg h]; rfl
  · unfold addF; rw [if_pos ⟨h, .inl h1⟩]
  · unfold addF; rw [if_pos ⟨h, .inr h2⟩]
  · unfold addF; rw [if_neg (by omega)]
  · unfold addF; rw [if_neg (fun e => h e.1)]
  · have h0 : dropE a e = 0 ∧ 0 ≤ n ∧ n ≤ 4 := by
      unfold addF at h
      by_cases hc : dropE a e = 0 ∧ (n < 0 ∨ 4 < n)
      · rw [if_pos hc] at h; cases h
      · rw [if_neg hc] at h; omega
    obtain ⟨g, he⟩ := dropE_iff.1 h0.1
    have hc := chk_iff.2 g
    have hgl := g.has.len
    have hmx := maxC_in (tagsE_iff.2 g.has) n a.1.length (Nat.le_refl _)
    rw [h, hA, if_pos hc, if_pos ⟨he, h0.2⟩]
    refine ⟨fun h1 => ?_, fun h1 => ⟨tagsE_iff.2 g.has, fun h2 => ?_, fun h2 => ?_⟩⟩
    · rw [if_pos (.inl (by omega))]
    · rw [if_pos (.inr (by omega))]
    · rw [if_neg (by omega)]
  · have : addF a e n = if dropE a e = 0 ∧ (n < 0 ∨ 4 < n) then 1 else dropE a e := rfl
    rw [this] at h ⊢
    by_cases hc : dropE a e = 0 ∧ (n < 0 ∨ 4 < n)
    · rw [if_pos hc]
      obtain ⟨g, he⟩ := dropE_iff.1 hc.1
      rw [hA, if_pos (chk_iff.2 g), if_neg (by omega)]
    · rw [if_neg hc] at h ⊢
      rw [hD] at h ⊢
      rw [hA]
      by_cases hb : chkB a = 0
      · rw [if_pos hb] at h ⊢
        rw [if_pos hb]
        by_cases hq : 0 ≤ e ∧ e ≤ 9
        · rw [if_pos hq] at h; exact absurd rfl h
        · rw [if_neg hq, if_neg (fun x => hq x.1)]
      · rw [if_neg hb, if_neg hb]
  · obtain ⟨g, he, hn, hq⟩ := addE_iff.1 h
    have hgl := g.has.len
    refine ⟨⟨tagsE_iff.2 g.has, by omega⟩, ?_⟩
    unfold addB; rw [if_pos h, putL_ins g.has.ss]
  · unfold addB; rw [if_neg h]; rfl
  · unfold joinF; rw [if_pos h]
  · unfold joinF; rw [if_neg h]
  · have hab : chkB a = 0 ∧ chkB b = 0 := by
      unfold joinF at h
      by_cases hc : chkB a = 0
      · rw [if_pos hc] at h; exact ⟨hc, h⟩
      · rw [if_neg hc] at h; exact absurd h hc
    have ga := chk_iff.1 hab.1
    have gb := chk_iff.1 hab.2
    have l1 := ga.has.len
    have l2 := ga.gone.len
    have l3 := gb.has.len
    have l4 := gb.gone.len
    have s1 := allU_srt ga.has.ss b.1 _ (Nat.le_refl _)
    have s2 := allU_srt ga.gone.ss b.2.1 _ (Nat.le_refl _)
    rw [List.take_length] at s1 s2
    refine ⟨by omega, by omega, fun h1 => ?_, fun h1 => ?_⟩
    · rw [s1] at h1
      have hJ : joinE a b = 4 := by unfold joinE; rw [if_pos hab.1, if_pos hab.2, if_pos (by omega)]
      refine ⟨hJ.symm, ?_⟩
      unfold joinB; rw [if_neg (by rw [hJ]; decide)]; rfl
    · rw [s1] at h1
      have hJ : joinE a b = 0 := by unfold joinE; rw [if_pos hab.1, if_pos hab.2, if_neg (by omega)]
      rw [s1, s2, joinB_eq hJ, h, hJ]
      exact ⟨rfl, rfl⟩
  · have hJ : joinE a b = joinF a b := by
      unfold joinF at h ⊢; unfold joinE
      by_cases hc : chkB a = 0
      · rw [if_pos hc] at h ⊢; rw [if_pos hc, if_neg h]
      · rw [if_neg hc, if_neg hc]
    refine ⟨hJ.symm, ?_⟩
    unfold joinB; rw [if_neg (by rw [hJ]; exact h)]; rfl
theorem okLawS : PlainOk Tryd.prog glE 3 cLawS := by
  refine plain_of (CxOk.mk' Eb_ok (by kernel_rfl) mixed (gl := glE) (GOk.cons okRCounts.lift Tryd.func5 (by kernel_rfl) (by kernel_rfl) (GOk.cons okError Tryd.func6 (by kernel_rfl) (by kernel_rfl) (GOk.cons okCounts.lift Tryd.func7 (by kernel_rfl) (by kernel_rfl) (GOk.cons okUp.lift Tryd.func8 (by kernel_rfl) (by kernel_rfl) (GOk.cons okInts.lift Tryd.func9 (by kernel_rfl) (by kernel_rfl) (GOk.cons okMost.lift Tryd.func10 (by kernel_rfl) (by kernel_rfl) (GOk.cons okRBag.lift Tryd.func11 (by kernel_rfl) (by kernel_rfl) (GOk.cons okCheck.lift Tryd.func12 (by kernel_rfl) (by kernel_rfl) (GOk.cons okRElems.lift Tryd.func13 (by kernel_rfl) (by kernel_rfl) (GOk.cons okElems.lift Tryd.func14 (by kernel_rfl) (by kernel_rfl) (GOk.cons okRDropped.lift Tryd.func15 (by kernel_rfl) (by kernel_rfl) (GOk.cons okDrop.lift Tryd.func16 (by kernel_rfl) (by kernel_rfl) (GOk.cons okSameB.lift Tryd.func17 (by kernel_rfl) (by kernel_rfl) (GOk.cons okRNext.lift Tryd.func18 (by kernel_rfl) (by kernel_rfl) (GOk.cons okRPut.lift Tryd.func19 (by kernel_rfl) (by kernel_rfl) (GOk.cons okAdd.lift Tryd.func20 (by kernel_rfl) (by kernel_rfl) (GOk.cons okRAll.lift Tryd.func21 (by kernel_rfl) (by kernel_rfl) (GOk.cons okJoin.lift Tryd.func22 (by kernel_rfl) (by kernel_rfl) GOk.nil)))))))))))))))))) GoOk.nil noIt) Tryd.func3 (c := Tryd.f3.body.getD .skip) (rvs := [(.tmp 12, .bool)]) (by kernel_rfl) (by kernel_rfl) (by kernel_rfl) ?_
  intro ds k ⟨hp, hk⟩ hwf
  obtain ⟨v, w, a, b, e, n, rfl, -⟩ := dest6 hp
  exact ⟨anLawS v w a b e n, lawS_vc v w a b e n (hwf ⟨.sl I, v⟩ (.head _)).1 k hk⟩
end Go.Proofs.YtgcliogognkdkaaDoor
namespace Go.Proofs.YtgcliogognkdkaaDoor
open Go.Vc
theorem glOkS {W : World} (h : laidMetH Tryd.prog Rows.mergeSaysRow.laid W) : GlOk glE W fun b => b < W.heap.size := glE_of (.head _) h
end Go.Proofs.YtgcliogognkdkaaDoor
