/- What is put in may be cut out: the law's function answers true. -/
import Derived.Test.YtpidkjpjjidghaaOk
namespace Go.Proofs.Ytpidkjpjjidghaa
open Go.Vc

theorem app_eq {t : List UInt8} {e : Int × Int × Int × Unit} (h : appErr t e = 0) : app t e = if e.2.1 = -2 then t else if e.2.1 = -1 then t.take e.1.toNat ++ t.drop (e.1 + 1).toNat else t.take e.1.toNat ++ bstr [e.2.1] ++ t.drop e.1.toNat := by
  unfold app; rw [if_pos h]

theorem okBack : PlainOk Try.prog 4 (cTrue2 .str tEdit) := by
  refine plain_of (CxOk.mk' Ee_ok rfl (by kernel_rfl) (GOk.cons okFact Try.func5 (by kernel_rfl) (by kernel_rfl) (GOk.cons okApply Try.func7 (by kernel_rfl) (by kernel_rfl) GOk.nil))) Try.func4 (c := Try.f4.body.getD .skip) (rvs := [(.tmp 4, .bool)]) (by kernel_rfl) (by kernel_rfl) (by kernel_rfl) ?_
  intro ds k ⟨hp, hk⟩ hwf
  obtain ⟨s, a, rfl, -⟩ := dest2 hp
  have hk : k [⟨.bool, true⟩] := hk
  refine ⟨[], ?_⟩
  rw [vcBack]
  have ret : ∀ x : Bool, x = true → k [⟨.bool, x⟩] := by rintro _ rfl; exact hk
  have hsl : s.length ≤ maxLen := (wf2 hwf).1
  simp only [Bool.not_eq_true', decide_eq_false_iff_not, decide_eq_true_eq, Bool.not_eq_false', inK_i64]
  refine ⟨trivial, (fun h => by cases h), fun _ => ⟨trivial, fun h => ?_, fun h => ?_⟩⟩
  · have ht : app s a = [] := by unfold app; rw [if_neg h]
    rw [ht]; exact ret _ rfl
  · have hs : s.length ≤ 60 := by
      unfold appErr at h
      split at h
      · cases h
      · omega
    have hok : editOk a = true := by
      unfold appErr at h
      split at h
      · cases h
      · split at h
        · cases h
        · rename_i h1 h2; simpa using h2
    have ha := editOk_iff.1 hok
    have base : appErr s a = if a.2.1 = -2 then 0 else if a.2.1 = -1 then (if (s.length : Int) ≤ a.1 then 5 else 0)
        else if (s.length : Int) < a.1 then 5 else if s.length = 60 then 4 else 0 := by
      unfold appErr; rw [if_neg (by omega), if_neg (by rw [hok]; decide)]
    have happ : app s a = if a.2.1 = -2 then s else if a.2.1 = -1 then s.take a.1.toNat ++ s.drop (a.1 + 1).toNat else s.take a.1.toNat ++ bstr [a.2.1] ++ s.drop a.1.toNat := by
      unfold app; rw [if_pos h]
    refine ⟨fun h1 => ret _ ?_, fun h1 => ⟨fun h2 => ?_, fun h2 => ?_⟩⟩
    · rw [happ, if_pos h1]; simp
    · have hlt : ¬ (s.length : Int) ≤ a.1 := by
        rw [base, if_neg h1, if_pos h2] at h
        split at h
        · cases h
        · assumption
      rw [if_neg h1, if_pos h2] at happ
      obtain ⟨n, hn⟩ := Int.eq_ofNat_of_zero_le ha.1
      have e1 : a.1.toNat = n := by omega
      have e2 : (a.1 + 1).toNat = n + 1 := by omega
      have hnl : n < s.length := by omega
      rw [e1, e2] at happ
      have hlen : (app s a).length = s.length - 1 := by
        rw [happ]; simp; omega
      refine ⟨by omega, fun h3 => absurd ?_ h3, fun _ => ⟨fun h3 => by omega, fun _ => ⟨fun h3 => absurd h3 hlt, fun _ => ?_⟩⟩⟩
      · rw [hlen]; omega
      · rw [e1]
        have hb : s.getD n (UInt8.ofNat 0) = s[n] := by simp [hnl]
        rw [hb]
        have hlt8 := (s[n]).toNat_lt
        have hok2 : editOk (a.1, ((s[n]).toNat : Int), 0, ()) = true := by
          rw [editOk_iff]; simp only; omega
        have herr : appErr (app s a) (a.1, ((s[n]).toNat : Int), 0, ()) = 0 := by
          unfold appErr
          rw [if_neg (by omega), if_neg (by rw [hok2]; decide), if_neg (by simp only; omega), if_neg (by simp only; omega), if_neg (by simp only; omega), if_neg (by omega)]
        refine ⟨by omega, by omega, by omega, trivial, fun _ => ret _ ?_, fun h3 => absurd herr h3⟩
        have hap2 : app (app s a) (a.1, ((s[n]).toNat : Int), 0, ()) = s := by
          rw [app_eq herr, if_neg (by simp only; omega), if_neg (by simp only; omega)]
          show List.take a.1.toNat (app s a) ++ bstr [((s[n]).toNat : Int)] ++ List.drop a.1.toNat (app s a) = s
          rw [e1, happ]
          have hbs : bstr [((s[n]).toNat : Int)] = [s[n]] := by simp [bstr]
          rw [hbs, List.take_append_of_le_length (by simp; omega), List.drop_append_of_le_length (by simp; omega)]
          simp only [List.take_take, Nat.min_self]
          rw [List.drop_take, Nat.sub_self, List.take_zero, List.nil_append, List.append_assoc, List.singleton_append, List.getElem_cons_drop, List.take_append_drop]
        rw [hap2]; simp
    · have hne12 : ¬ ((-1 : Int) = -2) := by decide
      have hlt : ¬ (s.length : Int) < a.1 ∧ ¬ s.length = 60 := by
        rw [base, if_neg h1, if_neg h2] at h
        split at h
        · cases h
        · split at h
          · cases h
          · exact ⟨by assumption, by assumption⟩
      rw [if_neg h1, if_neg h2] at happ
      obtain ⟨n, hn⟩ := Int.eq_ofNat_of_zero_le ha.1
      have e1 : a.1.toNat = n := by omega
      have e2 : (a.1 + 1).toNat = n + 1 := by omega
      have hnl : n ≤ s.length := by omega
      rw [e1] at happ
      have hlen : (app s a).length = s.length + 1 := by
        rw [happ]; simp [bstr]; omega
      have hok2 : editOk (a.1, -1, 0, ()) = true := by
        rw [editOk_iff]; simp only; omega
      have herr : appErr (app s a) (a.1, -1, 0, ()) = 0 := by
        unfold appErr
        rw [if_neg (by omega), if_neg (by rw [hok2]; decide), if_neg hne12, if_pos rfl, if_neg (by simp only; omega)]
      have hap2 : app (app s a) (a.1, -1, 0, ()) = s := by
        rw [app_eq herr, if_neg hne12, if_pos rfl]
        show List.take a.1.toNat (app s a) ++ List.drop (a.1 + 1).toNat (app s a) = s
        rw [e1, e2, happ]
        have hbs : bstr [a.2.1] = [UInt8.ofNat a.2.1.toNat] := rfl
        rw [hbs, List.append_assoc, List.take_append_of_le_length (by simp; omega), List.take_take, Nat.min_self, List.singleton_append]
        rw [List.drop_append, List.drop_eq_nil_of_le (by simp; omega), List.nil_append]
        simp only [List.length_take, Nat.min_eq_left hnl]
        rw [show n + 1 - n = 1 by omega]
        simp
      refine ⟨trivial, by omega, fun _ => ⟨fun _ => ret _ ?_, fun h3 => absurd herr h3⟩, fun h3 => absurd ?_ h3⟩
      · rw [hap2]; simp
      · rw [hlen]; omega
end Go.Proofs.Ytpidkjpjjidghaa
