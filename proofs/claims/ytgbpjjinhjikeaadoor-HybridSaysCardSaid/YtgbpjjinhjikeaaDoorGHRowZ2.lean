/- Own texts, merged: GROk2, GHDef, GHV, GHOk. -/
import Derived.Test.YtgbpjjinhjikeaaDoorGHRowZ1
/- Stamps: the document's function keeps its contract. -/
namespace Go.Proofs.YtgbpjjinhjikeaaDoor
open Go.Vc

theorem hchk_zero {t : Tr} {ts : List Int} (h : hchk t ts = 0) : chk t = 0 ∧ ts.length = t.2.1.length ∧ ∀ i, 0 ≤ ts.getD i 0 := by
  unfold hchk at h
  split at h
  · rename_i h1
    split at h
    · rename_i h2
      split at h
      · rename_i h3
        refine ⟨h1, h2, fun i => ?_⟩
        by_cases hi : i < ts.length
        · rw [List.all_eq_true] at h3
          have := h3 (ts.getD i 0) (by rw [List.getD_eq_getElem?_getD, List.getElem?_eq_getElem hi]; exact List.getElem_mem hi)
          unfold timeB inB at this
          simp only [Bool.and_eq_true, decide_eq_true_eq] at this
          exact this.1
        · rw [List.getD_eq_getElem?_getD, List.getElem?_eq_none (by omega)]; exact Int.le_refl _
      · cases h
    · cases h
  · rename_i h1; exact absurd h h1
theorem befN_len (t : Tr) : (ints (befN t)).length = t.2.1.length := by rw [ints_len]; exact (bst_len t.2.1 t.2.1.length).1

theorem rstamps_vc (t : Tr) (ts : List Int) (hc : hchk t ts = 0) (k : List Dat → Prop) (hk : k [⟨.sl tSt, stamps t ts⟩]) :
    vcF ⟨Eh, [(11, cRBeforeG), (27, cBit), (35, cNth)], [], [], []⟩ (anRStamps t ts) (Tryd.f20.body.getD .skip) Tryd.f20.ntmps [(.tmp 4, .sl tSt)] [⟨tTr, t⟩, ⟨.sl I, ts⟩] k := by
  rw [vcRStamps]
  obtain ⟨h0, hts, ht⟩ := hchk_zero hc
  have g := gd_of h0
  have hl := g.len
  simp only [decide_eq_true_eq, decide_eq_false_iff_not, and_true, true_and, Int.toNat_natCast, inK_i64, befN_len, stps_len, implies_true]
  refine ⟨h0, ⟨0, Nat.zero_le _, rfl, rfl⟩, fun x hx => ⟨fun hlt => ?_, fun hge => ?_⟩⟩
  · have hxl : x < t.2.1.length := by omega
    rw [bef_at hxl]
    refine ⟨by omega, by omega, ⟨0, Nat.zero_le _, rfl, rfl⟩, fun y hy => ⟨fun hyx => ?_, fun hyx => ?_⟩⟩
    · rw [bitB_nat]
      refine ⟨⟨by omega, hlt, fun _ => ⟨by omega, by omega⟩⟩, fun hb => ?_, fun hb => ?_⟩
      · rw [Bool.and_eq_true, decide_eq_true_eq] at hb
        refine ⟨by omega, by omega, by omega, y + 1, by omega, by omega, rfl, ?_⟩
        rw [timeU, if_pos hb]
      · have hb' : ¬ ((bB t.2.1 x).testBit y = true ∧ timeU t.2.1 ts x y < ts.getD y 0) := by
          rintro ⟨h1, h2⟩
          rw [h1, decide_eq_true h2] at hb; cases hb
        refine ⟨by omega, y + 1, by omega, by omega, rfl, ?_⟩
        rw [timeU, if_neg hb']
    · have hyx : y = x := by omega
      subst hyx
      refine ⟨⟨0, Nat.zero_le _, rfl, rfl⟩, fun z hz => ⟨fun hzy => ?_, fun hzy => ?_⟩⟩
      · have hzy : z < y := by omega
        have hn := nthU_le t.2.1 z z
        have hcz := stp_cnt t.2.1 ts z
        simp only [stps_at hzy]
        refine ⟨⟨by omega, hlt, fun _ => ⟨by omega, by omega, by omega, hlt, fun _ => ⟨⟨by omega, by omega⟩, by unfold nth; omega, by omega, hlt⟩⟩⟩, fun _ => ⟨by omega, by omega, fun _ => ⟨by omega, by omega, by omega, by omega⟩⟩, fun hb => ?_, fun hb => ?_⟩
        · rw [Bool.and_eq_true, Bool.and_eq_true, decide_eq_true_eq, decide_eq_true_eq] at hb
          refine ⟨by omega, by omega, by omega, by omega, z + 1, by omega, by omega, rfl, ?_⟩
          rw [cntU, if_pos ⟨hb.1, hb.2⟩]
        · have hb' : ¬ (aheadB t.2.1 y z = true ∧ (stp t.2.1 ts z).1 = timeU t.2.1 ts y y ∧ cntU t.2.1 ts y z < (stp t.2.1 ts z).2.1 + 1) := by
            rintro ⟨h1, h2, h3⟩
            unfold aheadB at h1
            rw [h1, decide_eq_true h2, decide_eq_true h3] at hb; cases hb
          refine ⟨by omega, z + 1, by omega, by omega, rfl, ?_⟩
          rw [cntU, if_neg hb']
      · have hzy : z = y := by omega
        subst hzy
        refine ⟨by simp; omega, by omega, z + 1, by omega, by omega, rfl, ?_⟩
        rw [stps_succ, stp_eq g ht hxl]; rfl
  · have : x = t.2.1.length := by omega
    rw [this, stps_all]
    unfold stamps at hk
    rw [if_pos hc] at hk; exact hk
theorem okRStamps : PlainOk Tryd.prog [] 20 cRStamps := by
  refine plain_of (CxOk.mk' Eh_ok (by kernel_rfl) mixed (gl := []) (GOk.cons okRBeforeG Tryd.func11 (by kernel_rfl) (by kernel_rfl) (GOk.cons okBit Tryd.func27 (by kernel_rfl) (by kernel_rfl) (GOk.cons okNth Tryd.func35 (by kernel_rfl) (by kernel_rfl) GOk.nil))) GoOk.nil noIt) Tryd.func20 (c := Tryd.f20.body.getD .skip) (rvs := [(.tmp 4, .sl tSt)]) (by kernel_rfl) (by kernel_rfl) (by kernel_rfl) ?_
  intro ds k hs hwf
  obtain ⟨t, ts, rfl, hc, hk⟩ := gdest2 hs
  exact ⟨anRStamps t ts, rstamps_vc t ts hc k hk⟩
end Go.Proofs.YtgbpjjinhjikeaaDoor

/- Stamps: HybridSays' law. -/
namespace Go.Proofs.YtgbpjjinhjikeaaDoor
open Go.Vc
abbrev cLawH : Ctr := cdet [tTr, .sl I, tSt, tSt] (fun _ _ _ _ => True) (fun _ _ _ _ => [⟨.bool, true⟩])
end Go.Proofs.YtgbpjjinhjikeaaDoor

/- What the functions of this seat have to satisfy, by program: each verification condition in plain words. -/
namespace Go.Proofs.YtgbpjjinhjikeaaDoor
open Go.Vc
set_option linter.unusedVariables false
theorem vcLawH (t : Tr) (ts : List Int) (a b : Stp) (k : List Dat → Prop) : vcF ⟨Eh, [(18, cRTimes), (19, cHChk), (9, cError), (20, cRStamps), (21, cStamps), (22, cSame), (23, cLess)], glE, [], []⟩ [joinAll] (Tryd.f4.body.getD .skip) Tryd.f4.ntmps [(.tmp 8, .bool)] [⟨tTr, t⟩, ⟨.sl I, ts⟩, ⟨tSt, a⟩, ⟨tSt, b⟩] k = (
  True ∧ True ∧ (inK IntKind.i64 (hchk t ts) ∧ True) ∧ (decide (hchk t ts = (0 : Int)) = true → hchk t ts = (0 : Int) ∧ True ∧ (decide (a.fst < b.fst) = true → (decide (hchk t ts = hchk t ts) = true → (inK IntKind.i64 (hchk t ts) ∧ True) ∧ (decide (hchk t ts = hchk t ts) = true → True ∧ (decide (stamps t ts = stamps t ts) = true → True ∧ k [Dat.mk Ty.bool (lessB a b == true)]) ∧ (decide (stamps t ts = stamps t ts) = false → k [Dat.mk Ty.bool false])) ∧ (decide (hchk t ts = hchk t ts) = false → k [Dat.mk Ty.bool false])) ∧ (decide (hchk t ts = hchk t ts) = false → k [Dat.mk Ty.bool false])) ∧ (decide (a.fst < b.fst) = false → (decide (a.fst = b.fst) = true → (decide (hchk t ts = hchk t ts) = true → (inK IntKind.i64 (hchk t ts) ∧ True) ∧ (decide (hchk t ts = hchk t ts) = true → True ∧ (decide (stamps t ts = stamps t ts) = true → True ∧ k [Dat.mk Ty.bool (lessB a b == decide (a.snd.fst < b.snd.fst))]) ∧ (decide (stamps t ts = stamps t ts) = false → k [Dat.mk Ty.bool false])) ∧ (decide (hchk t ts = hchk t ts) = false → k [Dat.mk Ty.bool false])) ∧ (decide (hchk t ts = hchk t ts) = false → k [Dat.mk Ty.bool false])) ∧ (decide (a.fst = b.fst) = false → (decide (hchk t ts = hchk t ts) = true → (inK IntKind.i64 (hchk t ts) ∧ True) ∧ (decide (hchk t ts = hchk t ts) = true → True ∧ (decide (stamps t ts = stamps t ts) = true → True ∧ k [Dat.mk Ty.bool (lessB a b == false)]) ∧ (decide (stamps t ts = stamps t ts) = false → k [Dat.mk Ty.bool false])) ∧ (decide (hchk t ts = hchk t ts) = false → k [Dat.mk Ty.bool false])) ∧ (decide (hchk t ts = hchk t ts) = false → k [Dat.mk Ty.bool false])))) ∧ (decide (hchk t ts = (0 : Int)) = false → True ∧ (decide (a.fst < b.fst) = true → (decide (hchk t ts = hchk t ts) = true → (inK IntKind.i64 (hchk t ts) ∧ True) ∧ (decide (hchk t ts = hchk t ts) = true → True ∧ (decide (stamps t ts = []) = true → True ∧ k [Dat.mk Ty.bool (lessB a b == true)]) ∧ (decide (stamps t ts = []) = false → k [Dat.mk Ty.bool false])) ∧ (decide (hchk t ts = hchk t ts) = false → k [Dat.mk Ty.bool false])) ∧ (decide (hchk t ts = hchk t ts) = false → k [Dat.mk Ty.bool false])) ∧ (decide (a.fst < b.fst) = false → (decide (a.fst = b.fst) = true → (decide (hchk t ts = hchk t ts) = true → (inK IntKind.i64 (hchk t ts) ∧ True) ∧ (decide (hchk t ts = hchk t ts) = true → True ∧ (decide (stamps t ts = []) = true → True ∧ k [Dat.mk Ty.bool (lessB a b == decide (a.snd.fst < b.snd.fst))]) ∧ (decide (stamps t ts = []) = false → k [Dat.mk Ty.bool false])) ∧ (decide (hchk t ts = hchk t ts) = false → k [Dat.mk Ty.bool false])) ∧ (decide (hchk t ts = hchk t ts) = false → k [Dat.mk Ty.bool false])) ∧ (decide (a.fst = b.fst) = false → (decide (hchk t ts = hchk t ts) = true → (inK IntKind.i64 (hchk t ts) ∧ True) ∧ (decide (hchk t ts = hchk t ts) = true → True ∧ (decide (stamps t ts = []) = true → True ∧ k [Dat.mk Ty.bool (lessB a b == false)]) ∧ (decide (stamps t ts = []) = false → k [Dat.mk Ty.bool false])) ∧ (decide (hchk t ts = hchk t ts) = false → k [Dat.mk Ty.bool false])) ∧ (decide (hchk t ts = hchk t ts) = false → k [Dat.mk Ty.bool false]))))) := by kernel_rfl
end Go.Proofs.YtgbpjjinhjikeaaDoor

/- Stamps: HybridSays' law. -/
namespace Go.Proofs.YtgbpjjinhjikeaaDoor
open Go.Vc
theorem lift {f : FuncId} {c : Ctr} {gl : List (Nat × Dat)} (h : PlainOk Tryd.prog [] f c) : PlainOk Tryd.prog gl f c := PlainOk.sub (fun x hx => by cases hx) h
theorem evsErr_in {p : Int} {l : List Ev} : ∀ (f i : Nat), 0 ≤ evsErr p l f i ∧ evsErr p l f i ≤ 6 := by
  intro f
  induction f with
  | zero => intro i; unfold evsErr; omega
  | succ f ih =>
    intro i
    unfold evsErr
    split
    · exact ih _
    · unfold evErr
      split
      · omega
      · split <;> omega
theorem chk_in (t : Tr) : 0 ≤ chk t ∧ chk t ≤ 6 := by
  unfold chk
  split
  · omega
  · split
    · omega
    · exact evsErr_in _ _
theorem hchk_in (t : Tr) (ts : List Int) : inK .i64 (hchk t ts) := by
  rw [inK_i64]
  have := chk_in t
  unfold hchk
  repeat' split
  all_goals omega
theorem lawH_vc (t : Tr) (ts : List Int) (a b : Stp) (k : List Dat → Prop) (hk : k [⟨.bool, true⟩]) :
    vcF ⟨Eh, [(18, cRTimes), (19, cHChk), (9, cError), (20, cRStamps), (21, cStamps), (22, cSame), (23, cLess)], glE, [], []⟩ [joinAll] (Tryd.f4.body.getD .skip) Tryd.f4.ntmps [(.tmp 8, .bool)] [⟨tTr, t⟩, ⟨.sl I, ts⟩, ⟨tSt, a⟩, ⟨tSt, b⟩] k := by
  rw [vcLawH]
  have hs : hchk t ts ≠ 0 → stamps t ts = [] := fun h => by unfold stamps; rw [if_neg h]
  have hin := hchk_in t ts
  simp only [decide_true, and_true, true_and, forall_const, reduceCtorEq, Bool.true_eq_false, false_implies, hin, decide_eq_true_eq, decide_eq_false_iff_not]
  refine ⟨fun h0 => ⟨h0, fun h1 => ?_, fun h1 => ⟨fun h2 => ?_, fun h2 => ?_⟩⟩, fun h0 => ?_⟩
  · have : lessB a b = true := by unfold lessB; rw [decide_eq_true h1]; rfl
    rw [this]; exact hk
  · have : lessB a b = decide (a.2.1 < b.2.1) := by unfold lessB; rw [decide_eq_false h1, decide_eq_true h2]; rfl
    rw [this, beq_self_eq_true]; exact hk
  · have : lessB a b = false := by unfold lessB; rw [decide_eq_false h1, decide_eq_false h2]; rfl
    rw [this]; exact hk
  · rw [hs h0]
    simp only [not_true_eq_false, false_implies, and_true, forall_const]
    refine ⟨fun h1 => ?_, fun h1 => ⟨fun h2 => ?_, fun h2 => ?_⟩⟩
    · have : lessB a b = true := by unfold lessB; rw [decide_eq_true h1]; rfl
      rw [this]; exact hk
    · have : lessB a b = decide (a.2.1 < b.2.1) := by unfold lessB; rw [decide_eq_false h1, decide_eq_true h2]; rfl
      rw [this, beq_self_eq_true]; exact hk
    · have : lessB a b = false := by unfold lessB; rw [decide_eq_false h1, decide_eq_false h2]; rfl
      rw [this]; exact hk
theorem okLawH : PlainOk Tryd.prog glE 4 cLawH := by
  refine plain_of (CxOk.mk' Eh_ok (by kernel_rfl) mixed (gl := glE) (GOk.cons (lift okRTimes) Tryd.func18 (by kernel_rfl) (by kernel_rfl) (GOk.cons (lift okHChk) Tryd.func19 (by kernel_rfl) (by kernel_rfl) (GOk.cons okError Tryd.func9 (by kernel_rfl) (by kernel_rfl) (GOk.cons (lift okRStamps) Tryd.func20 (by kernel_rfl) (by kernel_rfl) (GOk.cons (lift okStamps) Tryd.func21 (by kernel_rfl) (by kernel_rfl) (GOk.cons (lift okSame) Tryd.func22 (by kernel_rfl) (by kernel_rfl) (GOk.cons (lift okLess) Tryd.func23 (by kernel_rfl) (by kernel_rfl) GOk.nil))))))) GoOk.nil noIt) Tryd.func4 (c := Tryd.f4.body.getD .skip) (rvs := [(.tmp 8, .bool)]) (by kernel_rfl) (by kernel_rfl) (by kernel_rfl) ?_
  intro ds k ⟨hp, hk⟩ hwf
  obtain ⟨t, ts, a, b, rfl, -⟩ := dest4 hp
  exact ⟨[joinAll], lawH_vc t ts a b k hk⟩
theorem glOkE {W : World} (h : laidMetH Tryd.prog Rows.hybridSaysRow.laid W) : GlOk glE W fun b => b < W.heap.size := glE_of (.head _) h
end Go.Proofs.YtgbpjjinhjikeaaDoor
