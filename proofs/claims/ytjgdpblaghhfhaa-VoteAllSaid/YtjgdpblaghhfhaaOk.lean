/- Votes: the poll's functions keep their contracts. -/
import Derived.Test.YtjgdpblaghhfhaaV
namespace Go.Proofs.Ytjgdpblaghhfhaa
open Go.Vc

theorem mixed : Try.prog.follows .mixedOrders = true := by kernel_rfl

theorem okWithin : PlainOk Try.prog [] 29 cWithin := by
  refine plain_of (X := X0) (CxOk.mk' Ev_ok rfl mixed GOk.nil GoOk.nil noIt) Try.func29 (c := Try.f29.body.getD .skip) (rvs := [(.tmp 6, .bool)]) (by kernel_rfl) (by kernel_rfl) (by kernel_rfl) ?_
  intro ds k ⟨hp, hk⟩ hwf
  obtain ⟨a, b, c, rfl, -⟩ := dest3 hp
  have hk : k [⟨.bool, inB a b c⟩] := hk
  refine ⟨[], ?_⟩
  rw [vcWithin]
  unfold inB at hk
  refine ⟨fun h => ?_, fun h => ?_⟩ <;> simpa [h] using hk

theorem X1_ok : CxOk Try.prog X1 := CxOk.mk' Ev_ok rfl mixed (GOk.cons okWithin Try.func29 rfl rfl GOk.nil) GoOk.nil noIt

theorem onPoll_out {f : Pl → List SV → (SV → Pl → Prop) → Prop} {args : List SV} {ob : List Ob} {k : SV → List Ob → Prop} (h : onPoll f args ob k) :
    ∃ n y l dc rs r, args = .ps 0 :: r ∧ ob = pob n y l dc rs ∧ f ⟨n, y, l, dc, rs⟩ r (fun s p => k s p.ob) := by
  unfold onPoll at h
  split at h
  · exact ⟨_, _, _, _, _, _, rfl, rfl, h⟩
  · exact h.elim

theorem inB_iff {n lo hi : Int} : inB n lo hi = true ↔ lo ≤ n ∧ n ≤ hi := by unfold inB; simp

theorem okNew : OwnOk Try.prog [] 11 cNew := by
  refine own_of X1_ok Try.func11 (c := Try.f11.body.getD .skip) (rvs := [(.tmp 2, .un), (.tmp 3, tErr)]) (by kernel_rfl) (by kernel_rfl) (by kernel_rfl) ?_
  intro args ob k h hw1 hw2
  clear hw1 hw2
  unfold cNew at h
  split at h
  · rename_i n
    obtain ⟨h1, h2⟩ := h
    refine ⟨[], ?_⟩
    rw [vcNew]
    refine ⟨trivial, fun h => ⟨by decide, h2 (by simpa using h)⟩, fun h => ?_⟩
    have h : inB n 1 8 = true := by simpa using h
    have hh := inB_iff.1 h
    exact ⟨by omega, by omega, by omega, h1 h⟩
  · exact h.elim

theorem okMem : OwnOk Try.prog [] 13 cMem := by
  refine own_of X1_ok Try.func13 (c := Try.f13.body.getD .skip) (rvs := [(.tmp 4, I)]) (by kernel_rfl) (by kernel_rfl) (by kernel_rfl) ?_
  intro args ob k h hw1 hw2
  clear hw1 hw2
  unfold cMem at h
  have hh := onPoll_out h
  clear h
  obtain ⟨n, y, l, dc, rs, r, rfl, rfl, h⟩ := hh

  split at h
  · rename_i i
    obtain ⟨⟨p1, p2, p3, p4, p5⟩, hk⟩ := h
    simp only at p1 p2 p3
    refine ⟨[], ?_⟩
    rw [vcMem]
    refine ⟨inK_i64.2 ⟨by omega, by omega⟩, trivial, fun h => ?_, fun h => ?_⟩
    · have h : inB i 0 (n - 1) = false := by simpa using h
      have : memP ⟨n, y, l, dc, rs⟩ i = -1 := by unfold memP; simp [h]
      rw [this] at hk; exact hk
    · have h : inB i 0 (n - 1) = true := by simpa using h
      have hh := inB_iff.1 h
      have : memP ⟨n, y, l, dc, rs⟩ i = l.getD i.toNat 0 := by unfold memP; simp [h]
      rw [this] at hk; exact ⟨by omega, by omega, hk⟩
  · exact h.elim

theorem two_pow_le {n m : Nat} (h : n ≤ m) : (2 : Int) ^ n ≤ 2 ^ m := by
  have : 2 ^ n ≤ 2 ^ m := Nat.pow_le_pow_right (by decide) h
  have h2 : ((2 ^ n : Nat) : Int) ≤ ((2 ^ m : Nat) : Int) := Int.ofNat_le.2 this
  rw [Int.natCast_pow, Int.natCast_pow] at h2
  exact h2
theorem two_pow_pos (n : Nat) : (0 : Int) < (2 : Int) ^ n := Int.pow_pos (by decide)
theorem two_pow_nat (n : Nat) : ((2 : Int) ^ n).toNat = 2 ^ n := by
  have : (2 : Int) ^ n = ((2 ^ n : Nat) : Int) := by rw [Int.natCast_pow]; rfl
  rw [this]; rfl

theorem okDo : OwnOk Try.prog [] 12 cDo := by
  refine own_of X1_ok Try.func12 (c := Try.f12.body.getD .skip) (rvs := [(.tmp 4, tErr)]) (by kernel_rfl) (by kernel_rfl) (by kernel_rfl) ?_
  intro args ob k h hw1 hw2
  clear hw1 hw2
  unfold cDo at h
  have hh := onPoll_out h
  clear h
  obtain ⟨n, y, l, dc, rs, r, rfl, rfl, h⟩ := hh

  split at h
  · rename_i a
    obtain ⟨⟨p1, p2, p3, p4, p5⟩, hk⟩ := h
    simp only at p1 p2 p3 p4 p5
    refine ⟨[joinAll], ?_⟩
    have hk := hk (doP ⟨n, y, l, dc, rs⟩ a).1 (doP ⟨n, y, l, dc, rs⟩ a).2 rfl
    revert hk
    generalize hr : doP ⟨n, y, l, dc, rs⟩ a = r
    intro hk
    rw [vcDo]
    have hpn := two_pow_le (n := n.toNat) (m := 8) (by omega)
    have hpp := two_pow_pos n.toNat
    unfold doP at hr
    simp only [Bool.not_eq_true', Bool.not_eq_false', decide_eq_true_eq, decide_eq_false_iff_not, inK_i64, Int.one_mul, true_and, and_true, two_pow_nat]
    refine ⟨fun h => ?_, fun h1 => ⟨fun h => ?_, fun h2 => ⟨fun h3 => ⟨fun h => ?_, fun h => ?_⟩, fun h3 => ⟨by omega, fun h => ?_, fun h4 => ?_⟩⟩⟩⟩
    · rw [if_pos (by simp [h])] at hr; subst hr; exact ⟨by decide, hk⟩
    · rw [if_pos (by simp [h])] at hr; subst hr; exact ⟨by decide, hk⟩
    · rw [if_neg (by simp [h1, h2]), if_pos h3, if_pos h] at hr; subst hr; exact ⟨by decide, hk⟩
    · rw [if_neg (by simp [h1, h2]), if_pos h3, if_neg (by simp [h])] at hr; subst hr
      exact ⟨by omega, by omega, by rfl, by omega, by omega, hk⟩
    · rw [if_neg (by simp [h1, h2]), if_neg h3, if_pos h] at hr; subst hr; exact ⟨by decide, hk⟩
    · have hh := inB_iff.1 h4
      rw [if_neg (by simp [h1, h2]), if_neg h3, if_neg (by simp [h4])] at hr
      have hp2 := two_pow_le (n := a.2.1.toNat) (m := 8) (by omega)
      have hp3 := two_pow_pos a.2.1.toNat
      refine ⟨by omega, by omega, by rfl, by omega, fun h5 => ⟨by omega, fun h => ?_, fun h6 => ⟨fun h => ?_, fun h => ?_⟩⟩, fun h5 => ⟨fun h6 => ⟨fun h => ?_, fun h => ⟨fun h' => ?_, fun h' => ?_⟩⟩, fun h6 => ?_⟩⟩
      · rw [if_pos h5, if_neg h] at hr; subst hr; exact ⟨by decide, hk⟩
      · rw [if_pos h5, if_pos h6, if_pos h] at hr; subst hr; exact ⟨by omega, by omega, by omega, hk⟩
      · rw [if_pos h5, if_pos h6, if_neg h] at hr; subst hr; exact ⟨by omega, hk⟩
      · rw [if_neg h5, if_pos h6, if_neg (by simp [h])] at hr; subst hr; exact ⟨by decide, hk⟩
      · rw [if_neg h5, if_pos h6, if_pos h, if_pos h'] at hr; subst hr; exact ⟨by omega, hk⟩
      · rw [if_neg h5, if_pos h6, if_pos h, if_neg (by simp [h'])] at hr; subst hr; exact ⟨by omega, hk⟩
      · rw [if_neg h5, if_neg h6] at hr
        refine ⟨fun h7 => ⟨by omega, fun h => ?_, fun h => ?_⟩, fun h7 => ?_⟩
        · rw [if_pos h] at hr; subst hr; exact ⟨by omega, hk⟩
        · rw [if_neg h] at hr; subst hr; exact hk
        · have := inB_iff.1 h1; omega
  · exact h.elim
end Go.Proofs.Ytjgdpblaghhfhaa
