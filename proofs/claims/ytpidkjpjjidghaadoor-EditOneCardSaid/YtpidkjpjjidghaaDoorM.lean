/- Edits: either way it is one text. -/
import Derived.Test.YtpidkjpjjidghaaDoorDef2
namespace Go.Proofs.YtpidkjpjjidghaaDoor
open Go.Vc

def cutL (s : List UInt8) (i : Nat) : List UInt8 := s.take i ++ s.drop (i + 1)
def putL (s : List UInt8) (i : Nat) (b : List UInt8) : List UInt8 := s.take i ++ b ++ s.drop i
theorem cut_at {s : List UInt8} {i : Nat} (hi : i < s.length) (k : Nat) : (cutL s i)[k]? = if k < i then s[k]? else s[k + 1]? := by
  unfold cutL
  rw [List.getElem?_append, List.length_take, Nat.min_eq_left (by omega)]
  split
  · rename_i h
    rw [List.getElem?_take, if_pos h]
  · rename_i h
    rw [List.getElem?_drop]
    congr 1; omega
theorem put_at {s : List UInt8} {i : Nat} {b : UInt8} (hi : i ≤ s.length) (k : Nat) : (putL s i [b])[k]? = if k < i then s[k]? else if k = i then some b else s[k - 1]? := by
  unfold putL
  rw [List.append_assoc, List.getElem?_append, List.length_take, Nat.min_eq_left hi]
  split
  · rename_i h
    rw [List.getElem?_take, if_pos h]
  · rename_i h
    by_cases hk : k = i
    · subst hk
      rw [if_pos rfl, Nat.sub_self]; rfl
    · rw [if_neg hk]
      obtain ⟨m, hm⟩ : ∃ m, k - i = m + 1 := ⟨k - i - 1, by omega⟩
      rw [hm, List.cons_append, List.getElem?_cons_succ, List.nil_append, List.getElem?_drop]
      congr 1; omega
theorem cut_len {s : List UInt8} {i : Nat} (hi : i < s.length) : (cutL s i).length = s.length - 1 := by
  unfold cutL; rw [List.length_append, List.length_take, List.length_drop]; omega
theorem put_len {s : List UInt8} {i : Nat} {b : UInt8} (hi : i ≤ s.length) : (putL s i [b]).length = s.length + 1 := by
  unfold putL; simp only [List.length_append, List.length_take, List.length_drop, List.length_cons, List.length_nil]; omega

theorem cut_cut {s : List UInt8} {i j : Nat} (hij : i < j) (hj : j < s.length) : cutL (cutL s i) (j - 1) = cutL (cutL s j) i := by
  apply List.ext_getElem?
  intro k
  rw [cut_at (s := cutL s i) (i := j - 1) (by rw [cut_len (by omega)]; omega), cut_at (s := cutL s j) (i := i) (by rw [cut_len hj]; omega)]
  simp only [cut_at (show i < s.length by omega), cut_at hj]
  repeat' split
  all_goals first | rfl | omega | (congr 1; omega)
theorem put_put {s : List UInt8} {i j : Nat} {x y : UInt8} (hij : i ≤ j) (hj : j ≤ s.length) : putL (putL s i [x]) (j + 1) [y] = putL (putL s j [y]) i [x] := by
  apply List.ext_getElem?
  intro k
  rw [put_at (s := putL s i [x]) (i := j + 1) (by rw [put_len (by omega)]; omega), put_at (s := putL s j [y]) (i := i) (by rw [put_len hj]; omega)]
  simp only [put_at (show i ≤ s.length by omega), put_at hj]
  repeat' split
  all_goals first | rfl | omega | (congr 1; omega)
/-- a byte put in at i, one cut at j, behind it -/
theorem put_cut {s : List UInt8} {i j : Nat} {x : UInt8} (hij : i ≤ j) (hj : j < s.length) : cutL (putL s i [x]) (j + 1) = putL (cutL s j) i [x] := by
  apply List.ext_getElem?
  intro k
  rw [cut_at (s := putL s i [x]) (i := j + 1) (by rw [put_len (by omega)]; omega), put_at (s := cutL s j) (i := i) (by rw [cut_len hj]; omega)]
  simp only [put_at (show i ≤ s.length by omega), cut_at hj]
  repeat' split
  all_goals first | rfl | omega | (congr 1; omega)
/-- ahead of it -/
theorem cut_put {s : List UInt8} {i j : Nat} {x : UInt8} (hij : j < i) (hi : i ≤ s.length) : cutL (putL s i [x]) j = putL (cutL s j) (i - 1) [x] := by
  apply List.ext_getElem?
  intro k
  rw [cut_at (s := putL s i [x]) (i := j) (by rw [put_len hi]; omega), put_at (s := cutL s j) (i := i - 1) (by rw [cut_len (by omega)]; omega)]
  simp only [put_at hi, cut_at (show j < s.length by omega)]
  repeat' split
  all_goals first | rfl | omega | (congr 1; omega)
end Go.Proofs.YtpidkjpjjidghaaDoor
