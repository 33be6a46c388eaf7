/- HybridTrue's function answers true. -/
import Derived.Test.YtgbpjjinhjikeaaM4
import Derived.Test.YtgbpjjinhjikeaaV7
namespace Go.Proofs.Ytgbpjjinhjikeaa
open Go.Vc
theorem true_vc (t : Tr) (ts : List Int) (k : List Dat → Prop) (hk : k [⟨.bool, true⟩]) : vcF ⟨Eh, [(16, cHFact), (17, cStamps), (11, cBefore), (13, cBit)]⟩ (anTrue t ts) (Try.f6.body.getD .skip) Try.f6.ntmps [(.tmp 4, .bool)] [⟨tTr, t⟩, ⟨.sl I, ts⟩] k := by
  rw [vcTrue]
  have ret : ∀ x : Bool, x = true → k [⟨.bool, x⟩] := by rintro _ rfl; exact hk
  simp only [decide_eq_true_eq, decide_eq_false_iff_not, and_true, true_and, Bool.not_eq_true', Bool.not_eq_false', Int.toNat_natCast, implies_true, eq_self, inK_i64]
  refine ⟨(fun h => by cases h), fun _ => ⟨fun h => ret _ (by simp [h]), fun h => ⟨fun h2 => ?_, fun hc => ⟨fun hne => ?_, fun _ => ⟨⟨0, Nat.zero_le _, rfl⟩, fun i hi => ⟨fun hlt => ?_, fun _ => hk⟩⟩⟩⟩⟩⟩
  · exact absurd (hchk_ok h).1 h2
  · exfalso
    apply hne
    have e1 : stamps t ts = (sst t.2.1 ts t.2.1.length).1 := by unfold stamps; rw [if_pos h]
    rw [e1, (sst_len _ _ _).1, bef_len hc]
  · obtain ⟨_, hl, ha⟩ := hchk_ok h
    have g := good_of hc
    have hlen := g.len
    have e1 : stamps t ts = (sst t.2.1 ts t.2.1.length).1 := by unfold stamps; rw [if_pos h]
    have s1 : (stamps t ts).length = t.2.1.length := by rw [e1, (sst_len _ _ _).1]
    have hbl := bef_len hc
    rw [s1] at hlt
    have hil : i < t.2.1.length := by omega
    have hst : (stamps t ts).getD i (0, 0, ()) = stp t.2.1 ts i := by rw [e1]; exact sst_keep _ _ _ hil
    refine ⟨⟨(0, true), ⟨(show ((0 : Nat) : Int) ≤ i by omega), fun _ m hm => absurd hm (Nat.not_lt_zero _)⟩, rfl, rfl⟩, ?_⟩
    rintro ⟨q, r⟩ ⟨hq, hr⟩
    have hq : (q : Int) ≤ i := hq
    have hr : rightP t ts i q r := hr
    dsimp only
    refine ⟨fun hqi => ⟨fun _ => ⟨by omega, by omega, fun _ => ⟨by omega, by omega, by omega, by omega⟩⟩, by omega, ?_⟩, fun hqi => ⟨fun _ => ⟨by omega, by omega, by omega, by omega, fun _ => ⟨by omega, by omega⟩⟩, fun hb => ?_, fun _ => ⟨by omega, i + 1, by omega, by omega, by omega⟩⟩⟩
    · generalize hgn : (r && _) = gn
      refine ⟨(q + 1, gn), ⟨(show ((q + 1 : Nat) : Int) ≤ i by omega), fun e m hm hb => ?_⟩, (show t.2.1.length - (q + 1) < t.2.1.length - q by omega), rfl, rfl⟩
      have e : gn = true := e
      have hm : m < q + 1 := hm
      rw [← hgn] at e
      simp only [Bool.and_eq_true, Bool.or_eq_true, Bool.not_eq_true', decide_eq_true_eq] at e
      by_cases hmq : m = q
      · subst hmq
        rcases e.2 with e2 | e2
        · rw [e2] at hb; cases hb
        · exact e2
      · exact hr e.1 m (by omega) hb
    · have hiq : q = i := by omega
      subst hiq
      simp only [Bool.and_eq_true, Bool.or_eq_true, Bool.not_eq_true', decide_eq_false_iff_not] at hb
      have hS : stp t.2.1 ts q = (ts.getD q 0, 0, ()) := by
        refine stp_true (good_prc g) (good_frm g) (fun j => (time_at ha j).1) hil fun m hm => ?_
        have hmi := bB_less (good_prc g) (good_frm g) hil hm
        refine hr hb.1 m hmi ?_
        rw [bef_at hc hil, bitB_nat]
        exact hm
      rw [hst, hS] at hb
      rcases hb.2 with hb | hb
      · exact absurd rfl hb
      · exact absurd rfl hb

theorem okTrue : PlainOk Try.prog 6 (cdet [tTr, .sl I] (fun _ _ => True) (fun _ _ => [⟨.bool, true⟩])) := by
  refine plain_of (CxOk.mk' Eh_ok (by kernel_rfl) mixed (GOk.cons okHFact Try.func16 (by kernel_rfl) (by kernel_rfl) (GOk.cons okStamps Try.func17 (by kernel_rfl) (by kernel_rfl) (GOk.cons okBefore Try.func11 (by kernel_rfl) (by kernel_rfl) (GOk.cons okBit Try.func13 (by kernel_rfl) (by kernel_rfl) GOk.nil))))) Try.func6 (c := Try.f6.body.getD .skip) (rvs := [(.tmp 4, .bool)]) (by kernel_rfl) (by kernel_rfl) (by kernel_rfl) ?_
  intro ds k ⟨hp, hk⟩ hwf
  obtain ⟨t, ts, rfl, -⟩ := dest2 hp
  exact ⟨anTrue t ts, true_vc t ts k hk⟩
end Go.Proofs.Ytgbpjjinhjikeaa
