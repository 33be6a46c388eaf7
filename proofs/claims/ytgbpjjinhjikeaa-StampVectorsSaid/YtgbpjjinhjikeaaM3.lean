/- Whatever else goes so has it all: the last step of the law of the least order. -/
import Derived.Test.YtgbpjjinhjikeaaM2
namespace Go.Proofs.Ytgbpjjinhjikeaa
open Go.Vc

theorem good_prc {t : Tr} (g : Good t) : ∀ i, i < t.2.1.length → prc t.2.1 i < 5 := by
  intro i hi
  have := g.ev i hi
  have := g.procs
  unfold prc
  omega
theorem good_frm {t : Tr} (g : Good t) : ∀ i, i < t.2.1.length → frm t.2.1 i < (i : Int) := by
  intro i hi
  have := g.ev i hi
  unfold frm
  omega
theorem prc_eq {t : Tr} (g : Good t) {i j : Nat} (hi : i < t.2.1.length) (hj : j < t.2.1.length) : prc t.2.1 j = prc t.2.1 i ↔ (t.2.1.getD j (0, 0, ())).1 = (t.2.1.getD i (0, 0, ())).1 := by
  have h1 := g.ev i hi
  have h2 := g.ev j hj
  unfold prc
  omega
theorem befN_at {t : Tr} {i : Nat} (hi : i < t.2.1.length) : (befN t).getD i 0 = bB t.2.1 i := bst_keep t.2.1 hi t.2.1.length hi
theorem bef_at {t : Tr} (h : chk t = 0) {i : Nat} (hi : i < t.2.1.length) : (bef t).getD i (0 : Int) = ((bB t.2.1 i : Nat) : Int) := by
  unfold bef
  rw [if_pos h, ints_getD, befN_at hi]
theorem bef_len {t : Tr} (h : chk t = 0) : (bef t).length = t.2.1.length := by
  unfold bef
  rw [if_pos h, ints_len]
  exact (bst_len _ _).1

theorem must_bit {t : Tr} (g : Good t) {i j : Nat} (hi : i < t.2.1.length) (hj : j < i) (h : mustP t i j) : bitB ((bB t.2.1 i : Nat) : Int) (j : Int) = true := by
  rw [bitB_nat]
  refine bB_must (good_prc g) (good_frm g) hi hj (h.imp ?_ id)
  exact (prc_eq g hi (by omega)).2

theorem bit_sub {t : Tr} (g : Good t) {i j : Nat} (hi : i < t.2.1.length) (h : bitB ((bB t.2.1 i : Nat) : Int) (j : Int) = true) : subB ((bB t.2.1 j : Nat) : Int) ((bB t.2.1 i : Nat) : Int) = true := by
  rw [bitB_nat] at h
  rw [subB_iff]
  intro k hk
  exact bB_trans (good_prc g) (good_frm g) hi h hk

theorem bB_bound {t : Tr} (g : Good t) {i : Nat} (hi : i < t.2.1.length) : ((bB t.2.1 i : Nat) : Int) < (2 : Int) ^ i := by
  have := bB_lt (good_prc g) (good_frm g) hi
  have e : (2 : Int) ^ i = ((2 ^ i : Nat) : Int) := by rw [Int.natCast_pow]; rfl
  rw [e]
  exact Int.ofNat_lt.2 this

theorem good_all {t : Tr} (g : Good t) {o : List Int} (h : goodP t o true t.2.1.length 0) : ∀ i, i < t.2.1.length → subB ((bB t.2.1 i : Nat) : Int) (o.getD i 0) = true := by
  obtain ⟨hl, hp, -⟩ := h rfl
  intro i
  induction i using Nat.strongRecOn with
  | _ i ih =>
    intro hi
    cases i with
    | zero =>
      have := bB_lt (good_prc g) (good_frm g) hi
      have : bB t.2.1 0 = 0 := by simpa using this
      rw [this]
      rfl
    | succ m =>
      obtain ⟨h0, -, -⟩ := hp (m + 1) 0 hi (by omega)
      obtain ⟨n, hn⟩ := Int.eq_ofNat_of_zero_le h0
      rw [hn, subB_iff]
      intro k hk
      obtain ⟨j, hj, hjk⟩ := (bB_bit (good_prc g) (good_frm g) hi k).1 hk
      have hjl : j < m + 1 := hj.1
      obtain ⟨-, h2, h3⟩ := hp (m + 1) j hi hjl
      have hb := h2 (hj.2.imp (fun h => (prc_eq g hi (by omega)).1 h.1) id)
      have hs := h3 hb
      rw [hn, bitB_nat] at hb
      rcases hjk with hjk | hjk
      · have hsub := ih j hjl (by omega)
        cases j with
        | zero =>
          have := bB_lt (good_prc g) (good_frm g) (i := 0) (by omega)
          have : bB t.2.1 0 = 0 := by simpa using this
          rw [this] at hjk
          simp at hjk
        | succ q =>
          obtain ⟨h0', -, -⟩ := hp (q + 1) 0 (by omega) (by omega)
          obtain ⟨n', hn'⟩ := Int.eq_ofNat_of_zero_le h0'
          rw [hn', subB_iff] at hsub
          rw [hn', hn, subB_iff] at hs
          exact hs k (hsub k hjk)
      · rw [hjk]; exact hb
end Go.Proofs.Ytgbpjjinhjikeaa
