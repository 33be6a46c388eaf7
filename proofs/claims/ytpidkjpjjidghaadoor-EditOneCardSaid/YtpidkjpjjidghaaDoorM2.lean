/- Edits: EditOne's law. -/
import Derived.Test.YtpidkjpjjidghaaDoorM
import Derived.Test.YtpidkjpjjidghaaDoorV2
import Derived.Test.YtpidkjpjjidghaaDoorOk
import Derived.Test.YtpidkjpjjidghaaDoorErk
namespace Go.Proofs.YtpidkjpjjidghaaDoor
open Go.Vc

/-- what an edit that is all right does to a text -/
theorem app_zero {s : List UInt8} {e : Ed} (h : appErr s e = 0) : s.length ≤ 60 ∧ 0 ≤ e.1 ∧ e.1 ≤ 60 ∧ -2 ≤ e.2.1 ∧ e.2.1 ≤ 255 ∧ 0 ≤ e.2.2.1 ∧ e.2.2.1 ≤ 4 ∧
    ((e.2.1 = -2 ∧ app s e = s) ∨ (e.2.1 = -1 ∧ e.1 < s.length ∧ app s e = cutL s e.1.toNat) ∨ (0 ≤ e.2.1 ∧ e.1 ≤ s.length ∧ s.length < 60 ∧ app s e = putL s e.1.toNat (bstr [e.2.1]))) := by
  have ha := h
  unfold appErr at h
  split at h
  · exact absurd h (by decide)
  rename_i h1
  split at h
  · exact absurd h (by decide)
  rename_i h2
  have hok := editOk_iff.1 (show editOk e = true by simpa using h2)
  obtain ⟨k1, k2, k3, k4, k5, k6⟩ := hok
  refine ⟨by omega, k1, k2, k3, k4, k5, k6, ?_⟩
  split at h
  · rename_i h3
    exact .inl ⟨h3, by unfold app; rw [if_pos ha, if_pos h3]⟩
  rename_i h3
  split at h
  · rename_i h4
    split at h
    · exact absurd h (by decide)
    · rename_i h5
      refine .inr (.inl ⟨h4, by omega, ?_⟩)
      unfold app cutL
      rw [if_pos ha, if_neg h3, if_pos h4, show (e.1 + 1).toNat = e.1.toNat + 1 by omega]
  rename_i h4
  split at h
  · exact absurd h (by decide)
  rename_i h5
  split at h
  · exact absurd h (by decide)
  rename_i h6
  refine .inr (.inr ⟨by omega, by omega, by omega, ?_⟩)
  unfold app putL
  rw [if_pos ha, if_neg h3, if_neg h4]

theorem app_n {s : List UInt8} {e : Ed} (hs : s.length ≤ 60) (ok : editOk e = true) (h : e.2.1 = -2) : appErr s e = 0 ∧ app s e = s := by
  have h0 : appErr s e = 0 := by unfold appErr; rw [if_neg (by omega), if_neg (by rw [ok]; decide), if_pos h]
  exact ⟨h0, by unfold app; rw [if_pos h0, if_pos h]⟩
theorem app_c {s : List UInt8} {e : Ed} (hs : s.length ≤ 60) (ok : editOk e = true) (h : e.2.1 = -1) (hl : e.1 < s.length) : appErr s e = 0 ∧ app s e = cutL s e.1.toNat := by
  have h0 : appErr s e = 0 := by unfold appErr; rw [if_neg (by omega), if_neg (by rw [ok]; decide), if_neg (by omega), if_pos h, if_neg (by omega)]
  have := editOk_iff.1 ok
  exact ⟨h0, by unfold app cutL; rw [if_pos h0, if_neg (by omega), if_pos h, show (e.1 + 1).toNat = e.1.toNat + 1 by omega]⟩
theorem app_p {s : List UInt8} {e : Ed} (hs : s.length < 60) (ok : editOk e = true) (h : 0 ≤ e.2.1) (hl : e.1 ≤ s.length) : appErr s e = 0 ∧ app s e = putL s e.1.toNat (bstr [e.2.1]) := by
  have h0 : appErr s e = 0 := by unfold appErr; rw [if_neg (by omega), if_neg (by rw [ok]; decide), if_neg (by omega), if_neg (by omega), if_neg (by omega), if_neg (by omega)]
  exact ⟨h0, by unfold app putL; rw [if_pos h0, if_neg (by omega), if_neg (by omega)]⟩
theorem app_f {s : List UInt8} {e : Ed} (hs : s.length = 60) (ok : editOk e = true) (h : 0 ≤ e.2.1) (hl : e.1 ≤ s.length) : appErr s e = 4 := by
  unfold appErr; rw [if_neg (by omega), if_neg (by rw [ok]; decide), if_neg (by omega), if_neg (by omega), if_neg (by omega), if_pos hs]
theorem turn_zero {e f : Ed} (h : turnErr e f = 0) : turn e f = turned e f ∧ editOk e = true ∧ editOk f = true ∧ e.2.2.1 ≠ f.2.2.1 ∧ (turned e f).1 ≤ 60 := by
  have ht : turn e f = turned e f := by unfold turn; rw [if_pos h]
  unfold turnErr at h
  split at h
  · exact absurd h (by decide)
  rename_i h1
  split at h
  · exact absurd h (by decide)
  rename_i h2
  split at h
  · exact absurd h (by decide)
  rename_i h3
  split at h
  · exact absurd h (by decide)
  rename_i h4
  exact ⟨ht, by simpa using h1, by simpa using h2, h3, by omega⟩

theorem app_len {s : List UInt8} {e : Ed} (h : appErr s e = 0) : (app s e).length ≤ 60 := by
  obtain ⟨h1, k1, _, _, _, _, _, hc⟩ := app_zero h
  rcases hc with ⟨_, he⟩ | ⟨_, hl, he⟩ | ⟨_, hl, hs, he⟩
  · rw [he]; exact h1
  · rw [he, cut_len (by omega)]; omega
  · rw [he, show bstr [e.2.1] = [UInt8.ofNat e.2.1.toNat] from rfl, put_len (by omega)]; omega

/-- the two ways round -/
def OneP (s : List UInt8) (a b : Ed) : Prop :=
  (appErr (app s a) (turned b a) = 0 ∧ appErr (app s b) (turned a b) = 0 ∧ app (app s a) (turned b a) = app (app s b) (turned a b)) ∨
    (appErr (app s a) (turned b a) = 4 ∧ appErr (app s b) (turned a b) = 4)
theorem OneP.swap {s : List UInt8} {a b : Ed} (h : OneP s a b) : OneP s b a := by
  rcases h with ⟨h1, h2, h3⟩ | ⟨h1, h2⟩
  · exact .inl ⟨h2, h1, h3.symm⟩
  · exact .inr ⟨h2, h1⟩

theorem one_none {s : List UInt8} {a b : Ed} (ha : appErr s a = 0) (hb : appErr s b = 0) (oa : editOk a = true) (hn : a.2.1 = -2) (he : app s a = s) : OneP s a b := by
  have hc : turned b a = b := by unfold turned; rw [if_pos (.inr hn)]
  have hd : turned a b = a := by unfold turned; rw [if_pos (.inl hn)]
  obtain ⟨h1, h2⟩ := app_n (app_len hb) oa hn
  refine .inl ?_
  rw [hc, hd, he, h2]
  exact ⟨hb, h1, rfl⟩

theorem one_cc {s : List UInt8} {a b : Ed} (hs : s.length ≤ 60) (oa : editOk a = true) (ob : editOk b = true) (ca : a.2.1 = -1) (cb : b.2.1 = -1) (la : a.1 < s.length) (lb : b.1 < s.length)
    (ea : app s a = cutL s a.1.toNat) (eb : app s b = cutL s b.1.toNat) (hij : a.1 ≤ b.1) : OneP s a b := by
  have ka := editOk_iff.1 oa
  have kb := editOk_iff.1 ob
  have hla := cut_len (s := s) (i := a.1.toNat) (by omega)
  have hlb := cut_len (s := s) (i := b.1.toNat) (by omega)
  refine .inl ?_
  rcases Int.lt_or_eq_of_le hij with hlt | heq
  · have hc : turned b a = (b.1 - 1, b.2) := by unfold turned; rw [if_neg (by omega), if_neg (by omega), if_pos hlt]
    have hd : turned a b = a := by unfold turned; rw [if_neg (by omega), if_neg (by omega), if_neg (by omega), if_neg (by omega)]
    obtain ⟨p1, p2⟩ := app_c (s := cutL s a.1.toNat) (e := (b.1 - 1, b.2)) (by omega) (editOk_iff.2 ⟨by simp only; omega, by simp only; omega, kb.2.2⟩) cb (by simp only; omega)
    obtain ⟨q1, q2⟩ := app_c (s := cutL s b.1.toNat) (e := a) (by omega) oa ca (by omega)
    rw [ea, eb, hc, hd]
    refine ⟨p1, q1, ?_⟩
    rw [p2, q2]
    have := cut_cut (s := s) (i := a.1.toNat) (j := b.1.toNat) (by omega) (by omega)
    rw [← this]
    congr 1
    simp only; omega
  · have hc : turned b a = (b.1, -2, b.2.2) := by unfold turned; rw [if_neg (by omega), if_neg (by omega), if_neg (by omega), if_pos ⟨heq, by omega⟩]
    have hd : turned a b = (a.1, -2, a.2.2) := by unfold turned; rw [if_neg (by omega), if_neg (by omega), if_neg (by omega), if_pos ⟨heq.symm, by omega⟩]
    obtain ⟨p1, p2⟩ := app_n (s := cutL s a.1.toNat) (e := (b.1, -2, b.2.2)) (by omega) (editOk_iff.2 ⟨kb.1, kb.2.1, by simp only; omega, by simp only; omega, kb.2.2.2.2⟩) rfl
    obtain ⟨q1, q2⟩ := app_n (s := cutL s b.1.toNat) (e := (a.1, -2, a.2.2)) (by omega) (editOk_iff.2 ⟨ka.1, ka.2.1, by simp only; omega, by simp only; omega, ka.2.2.2.2⟩) rfl
    rw [ea, eb, hc, hd]
    refine ⟨p1, q1, ?_⟩
    rw [p2, q2, heq]

theorem one_cp {s : List UInt8} {a b : Ed} (hs : s.length < 60) (oa : editOk a = true) (ob : editOk b = true) (ca : a.2.1 = -1) (cb : 0 ≤ b.2.1) (la : a.1 < s.length) (lb : b.1 ≤ s.length)
    (ea : app s a = cutL s a.1.toNat) (eb : app s b = putL s b.1.toNat (bstr [b.2.1])) : OneP s a b := by
  have ka := editOk_iff.1 oa
  have kb := editOk_iff.1 ob
  have hbs : bstr [b.2.1] = [UInt8.ofNat b.2.1.toNat] := rfl
  have hla := cut_len (s := s) (i := a.1.toNat) (by omega)
  have hlb := put_len (s := s) (i := b.1.toNat) (b := UInt8.ofNat b.2.1.toNat) (by omega)
  refine .inl ?_
  rw [hbs] at eb
  by_cases hlt : a.1 < b.1
  · have hc : turned b a = (b.1 - 1, b.2) := by unfold turned; rw [if_neg (by omega), if_neg (by omega), if_pos hlt]
    have hd : turned a b = a := by unfold turned; rw [if_neg (by omega), if_pos cb, if_neg (by omega)]
    obtain ⟨p1, p2⟩ := app_p (s := cutL s a.1.toNat) (e := (b.1 - 1, b.2)) (by omega) (editOk_iff.2 ⟨by simp only; omega, by simp only; omega, kb.2.2⟩) cb (by simp only; omega)
    obtain ⟨q1, q2⟩ := app_c (s := putL s b.1.toNat [UInt8.ofNat b.2.1.toNat]) (e := a) (by omega) oa ca (by omega)
    rw [ea, eb, hc, hd]
    refine ⟨p1, q1, ?_⟩
    rw [p2, q2, cut_put (s := s) (i := b.1.toNat) (j := a.1.toNat) (by omega) (by omega)]
    simp only [hbs]
    congr 1; omega
  · have hc : turned b a = b := by unfold turned; rw [if_neg (by omega), if_neg (by omega), if_neg hlt, if_neg (by omega)]
    have hd : turned a b = (a.1 + 1, a.2) := by unfold turned; rw [if_neg (by omega), if_pos cb, if_pos (by omega)]
    obtain ⟨p1, p2⟩ := app_p (s := cutL s a.1.toNat) (e := b) (by omega) ob cb (by omega)
    obtain ⟨q1, q2⟩ := app_c (s := putL s b.1.toNat [UInt8.ofNat b.2.1.toNat]) (e := (a.1 + 1, a.2)) (by omega) (editOk_iff.2 ⟨by simp only; omega, by simp only; omega, ka.2.2⟩) ca (by simp only; omega)
    rw [ea, eb, hc, hd]
    refine ⟨p1, q1, ?_⟩
    rw [p2, q2, hbs, ← put_cut (s := s) (i := b.1.toNat) (j := a.1.toNat) (by omega) (by omega)]
    congr 1
    simp only; omega

theorem one_pp {s : List UInt8} {a b : Ed} (hs : s.length < 60) (oa : editOk a = true) (ob : editOk b = true) (ca : 0 ≤ a.2.1) (cb : 0 ≤ b.2.1) (la : a.1 ≤ s.length) (lb : b.1 ≤ s.length)
    (ea : app s a = putL s a.1.toNat (bstr [a.2.1])) (eb : app s b = putL s b.1.toNat (bstr [b.2.1])) (hij : a.1 < b.1 ∨ a.1 = b.1 ∧ a.2.2.1 < b.2.2.1) : OneP s a b := by
  have ka := editOk_iff.1 oa
  have kb := editOk_iff.1 ob
  have has : bstr [a.2.1] = [UInt8.ofNat a.2.1.toNat] := rfl
  have hbs : bstr [b.2.1] = [UInt8.ofNat b.2.1.toNat] := rfl
  have hla := put_len (s := s) (i := a.1.toNat) (b := UInt8.ofNat a.2.1.toNat) (by omega)
  have hlb := put_len (s := s) (i := b.1.toNat) (b := UInt8.ofNat b.2.1.toNat) (by omega)
  rw [has] at ea
  rw [hbs] at eb
  have hc : turned b a = (b.1 + 1, b.2) := by unfold turned; rw [if_neg (by omega), if_pos ca, if_pos (by omega)]
  have hd : turned a b = a := by unfold turned; rw [if_neg (by omega), if_pos cb, if_neg (by omega)]
  have oc : editOk ((b.1 + 1, b.2) : Ed) = true := editOk_iff.2 ⟨by simp only; omega, by simp only; omega, kb.2.2⟩
  unfold OneP
  rw [ea, eb, hc, hd]
  by_cases h59 : s.length = 59
  · exact .inr ⟨app_f (by omega) oc cb (by simp only; omega), app_f (by omega) oa ca (by omega)⟩
  · obtain ⟨p1, p2⟩ := app_p (s := putL s a.1.toNat [UInt8.ofNat a.2.1.toNat]) (e := (b.1 + 1, b.2)) (by omega) oc cb (by simp only; omega)
    obtain ⟨q1, q2⟩ := app_p (s := putL s b.1.toNat [UInt8.ofNat b.2.1.toNat]) (e := a) (by omega) oa ca (by omega)
    refine .inl ⟨p1, q1, ?_⟩
    rw [p2, q2, has, ← put_put (s := s) (i := a.1.toNat) (j := b.1.toNat) (by omega) (by omega)]
    simp only [hbs]
    congr 1; omega

theorem one {s : List UInt8} {a b : Ed} (ha : appErr s a = 0) (hb : appErr s b = 0) (h1 : turnErr b a = 0) (h2 : turnErr a b = 0) : OneP s a b := by
  obtain ⟨_, ob, oa, hw, _⟩ := turn_zero h1
  obtain ⟨hs, a1, a2, a3, a4, a5, a6, hac⟩ := app_zero ha
  obtain ⟨_, b1, b2, b3, b4, b5, b6, hbc⟩ := app_zero hb
  rcases hac with ⟨na, ea⟩ | ⟨ca, la, ea⟩ | ⟨pa, la, sa, ea⟩
  · exact one_none ha hb oa na ea
  · rcases hbc with ⟨nb, eb⟩ | ⟨cb, lb, eb⟩ | ⟨pb, lb, sb, eb⟩
    · exact (one_none hb ha ob nb eb).swap
    · rcases Int.le_total a.1 b.1 with h | h
      · exact one_cc hs oa ob ca cb la lb ea eb h
      · exact (one_cc hs ob oa cb ca lb la eb ea h).swap
    · exact one_cp sb oa ob ca pb la lb ea eb
  · rcases hbc with ⟨nb, eb⟩ | ⟨cb, lb, eb⟩ | ⟨pb, lb, sb, eb⟩
    · exact (one_none hb ha ob nb eb).swap
    · exact (one_cp sa ob oa cb pa lb la eb ea).swap
    · by_cases h : a.1 < b.1 ∨ a.1 = b.1 ∧ a.2.2.1 < b.2.2.1
      · exact one_pp sa oa ob pa pb la lb ea eb h
      · exact (one_pp sa ob oa pb pa lb la eb ea (by omega)).swap
end Go.Proofs.YtpidkjpjjidghaaDoor
