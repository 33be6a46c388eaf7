/- Own texts, merged: NM, NM2, NPDef, NPV, NDef3, NM3, NPM, NPLaw. -/
import Derived.Test.YtjgdpblaghhfhaaDoorNPRowZ1
/- Banks: the mathematics of notes taken while money is on its way. No program in sight. -/
namespace Go.Proofs.YtjgdpblaghhfhaaDoor.N
open Go.Vc
/-! Sums. -/
theorem sumTo_congr {n : Nat} {f g : Nat → Int} (h : ∀ i, i < n → f i = g i) : sumTo n f = sumTo n g := by
  induction n with
  | zero => rfl
  | succ m ih =>
    show sumTo m f + f m = sumTo m g + g m
    rw [ih fun i hi => h i (by omega), h m (by omega)]
theorem sumTo_upd {n : Nat} {f g : Nat → Int} (a : Nat) (ha : a < n) (h : ∀ i, i < n → i ≠ a → g i = f i) : sumTo n g = sumTo n f + (g a - f a) := by
  induction n with
  | zero => omega
  | succ m ih =>
    show sumTo m g + g m = sumTo m f + f m + (g a - f a)
    by_cases e : a = m
    · subst e
      rw [sumTo_congr (f := g) (g := f) fun i hi => h i (by omega) (by omega)]
      omega
    · rw [ih (by omega) fun i hi => h i (by omega), h m (by omega) (by omega)]
      omega
def sum2 (n : Nat) (f : Nat → Nat → Int) : Int := sumTo n fun i => sumTo n fun j => f i j
theorem sum2_congr {n : Nat} {f g : Nat → Nat → Int} (h : ∀ i j, i < n → j < n → f i j = g i j) : sum2 n f = sum2 n g :=
  sumTo_congr fun i hi => sumTo_congr fun j hj => h i j hi hj
theorem sum2_upd {n : Nat} {f g : Nat → Nat → Int} (a b : Nat) (ha : a < n) (hb : b < n) (h : ∀ i j, i < n → j < n → ¬ (i = a ∧ j = b) → g i j = f i j) : sum2 n g = sum2 n f + (g a b - f a b) := by
  have e1 : sumTo n (fun j => g a j) = sumTo n (fun j => f a j) + (g a b - f a b) := sumTo_upd b hb fun j hj hn => h a j ha hj (by omega)
  have e2 := sumTo_upd (f := fun i => sumTo n fun j => f i j) (g := fun i => sumTo n fun j => g i j) a ha fun i hi hn => sumTo_congr fun j hj => h i j hi hj (by omega)
  show sumTo n (fun i => sumTo n fun j => g i j) = sumTo n (fun i => sumTo n fun j => f i j) + (g a b - f a b)
  rw [e2]
  show _ + (sumTo n (fun j => g a j) - sumTo n (fun j => f a j)) = _
  rw [e1]
  omega
theorem sumTo_nonneg {n : Nat} {f : Nat → Int} (h : ∀ i, i < n → 0 ≤ f i) : 0 ≤ sumTo n f := by
  induction n with
  | zero => exact Int.le_refl 0
  | succ m ih =>
    show 0 ≤ sumTo m f + f m
    have := ih fun i hi => h i (by omega)
    have := h m (by omega)
    omega
theorem le_sumTo {n : Nat} {f : Nat → Int} (h : ∀ i, i < n → 0 ≤ f i) (a : Nat) (ha : a < n) : f a ≤ sumTo n f := by
  induction n with
  | zero => omega
  | succ m ih =>
    show f a ≤ sumTo m f + f m
    have h1 := sumTo_nonneg (n := m) (f := f) fun i hi => h i (by omega)
    have h2 := h m (by omega)
    by_cases e : a = m
    · subst e; omega
    · have := ih (fun i hi => h i (by omega)) (by omega); omega
theorem sum2_nonneg {n : Nat} {f : Nat → Nat → Int} (h : ∀ i j, i < n → j < n → 0 ≤ f i j) : 0 ≤ sum2 n f := sumTo_nonneg fun i hi => sumTo_nonneg fun j hj => h i j hi hj
theorem le_sum2 {n : Nat} {f : Nat → Nat → Int} (h : ∀ i j, i < n → j < n → 0 ≤ f i j) (a b : Nat) (ha : a < n) (hb : b < n) : f a b ≤ sum2 n f := by
  have h1 := le_sumTo (n := n) (f := fun i => sumTo n fun j => f i j) (fun i hi => sumTo_nonneg fun j hj => h i j hi hj) a ha
  have h2 := le_sumTo (n := n) (f := fun j => f a j) (fun j hj => h a j ha hj) b hb
  exact Int.le_trans h2 h1
/-! Ways. -/
/-- what is paid ahead of the mark -/
def pre : List Int → Int
  | [] => 0
  | v :: r => if v = -1 then 0 else (if 0 < v then v else 0) + pre r
theorem sumP_nonneg : ∀ l : List Int, 0 ≤ sumP l
  | [] => Int.le_refl 0
  | v :: r => by
    have := sumP_nonneg r
    show 0 ≤ (if 0 < v then v else 0) + sumP r
    split <;> omega
theorem pre_nonneg : ∀ l : List Int, 0 ≤ pre l
  | [] => Int.le_refl 0
  | v :: r => by
    have := pre_nonneg r
    show 0 ≤ if v = -1 then 0 else (if 0 < v then v else 0) + pre r
    split
    · exact Int.le_refl 0
    · split <;> omega
theorem pre_has : ∀ {w : List Int} (l : List Int), -1 ∈ w → pre (w ++ l) = pre w
  | [], _, h => by cases h
  | v :: r, l, h => by
    show (if v = -1 then 0 else (if 0 < v then v else 0) + pre (r ++ l)) = if v = -1 then 0 else (if 0 < v then v else 0) + pre r
    by_cases e : v = -1
    · rw [if_pos e, if_pos e]
    · rw [if_neg e, if_neg e, pre_has l (by cases h with
        | head => exact absurd rfl e
        | tail _ h => exact h)]
theorem pre_mark : ∀ {w : List Int}, -1 ∉ w → pre (w ++ [-1]) = sumP w
  | [], _ => rfl
  | v :: r, h => by
    show (if v = -1 then 0 else (if 0 < v then v else 0) + pre (r ++ [-1])) = (if 0 < v then v else 0) + sumP r
    rw [if_neg fun e => h (by rw [e]; exact List.mem_cons_self), pre_mark fun e => h (List.mem_cons_of_mem _ e)]
/-- what there is in the way from j to i, and was paid ahead of j's note -/
def rst (no : Int) (he : Bool) (w : List Int) : Int := if 0 ≤ no then (if he = true then 0 else pre w) else sumP w
theorem rst_nonneg (no : Int) (he : Bool) (w : List Int) : 0 ≤ rst no he w := by
  unfold rst
  split
  · split
    · exact Int.le_refl 0
    · exact pre_nonneg w
  · exact sumP_nonneg w
/-- what holds at all times -/
structure G (n : Nat) (mo : Nat → Int) (wa : Nat → Nat → List Int) (no : Nat → Int) (he : Nat → Nat → Bool) (ca : Nat → Nat → Int) (T : Int) : Prop where
  mo0 : ∀ i, i < n → 0 ≤ mo i
  ca0 : ∀ i j, i < n → j < n → 0 ≤ ca i j
  en : ∀ i j v, i < n → j < n → v ∈ wa i j → v = -1 ∨ (0 ≤ v ∧ v ≤ 1000)
  cn : ∀ i j, i < n → j < n → (wa i j).count (-1) = if i ≠ j ∧ 0 ≤ no i ∧ he j i = false then 1 else 0
  hn : ∀ i j, i < n → j < n → he i j = true → 0 ≤ no i ∧ 0 ≤ no j ∧ i ≠ j
  cz : ∀ i j, i < n → j < n → no i < 0 ∨ i = j → ca i j = 0
  wz : ∀ i, i < n → wa i i = []
  wl : ∀ i j, i < n → j < n → (wa i j).length ≤ 8 + (wa i j).count (-1)
  tot : sumTo n mo + sum2 n (fun i j => sumP (wa i j)) = T
  cut : sumTo n (fun i => if 0 ≤ no i then no i else mo i) + sum2 n (fun i j => ca i j + rst (no j) (he i j) (wa j i)) = T
section
variable {n : Nat} {mo mo' : Nat → Int} {wa wa' : Nat → Nat → List Int} {no no' : Nat → Int} {he he' : Nat → Nat → Bool} {ca ca' : Nat → Nat → Int} {T : Int}
/-- a payment is sent -/
theorem G.pay (g : G n mo wa no he ca T) {f t : Nat} {s : Int} (hf : f < n) (ht : t < n) (ft : f ≠ t) (s0 : 0 ≤ s) (s1 : s ≤ 1000) (hs : s ≤ mo f) (hl : (wa f t).length < 8)
    (em : ∀ i, i < n → mo' i = if i = f then mo f - s else mo i) (ew : ∀ i j, i < n → j < n → wa' i j = if i = f ∧ j = t then wa f t ++ [s] else wa i j) : G n mo' wa' no he ca T := by
  have ns : s ≠ -1 := by omega
  have ec : ∀ i j, i < n → j < n → (wa' i j).count (-1) = (wa i j).count (-1) := fun i j hi hj => by
    rw [ew i j hi hj]
    split
    · next h => obtain ⟨rfl, rfl⟩ := h; rw [List.count_append, List.count_cons, List.count_nil, if_neg (by simpa using ns)]; rfl
    · rfl
  have sp : sumP (wa' f t) = sumP (wa f t) + s := by
    rw [ew f t hf ht, if_pos ⟨rfl, rfl⟩, sumP_app]
    show _ + ((if 0 < s then s else 0) + 0) = _
    split <;> omega
  refine ⟨?_, g.ca0, ?_, ?_, g.hn, g.cz, ?_, ?_, ?_, ?_⟩
  · intro i hi; rw [em i hi]; split
    · omega
    · exact g.mo0 i hi
  · intro i j v hi hj hv
    rw [ew i j hi hj] at hv
    split at hv
    · next h =>
      obtain ⟨rfl, rfl⟩ := h
      rcases List.mem_append.1 hv with h | h
      · exact g.en _ _ v hi hj h
      · have := List.mem_singleton.1 h; right; omega
    · exact g.en i j v hi hj hv
  · intro i j hi hj; rw [ec i j hi hj]; exact g.cn i j hi hj
  · intro i hi; rw [ew i i hi hi, if_neg (by omega)]; exact g.wz i hi
  · intro i j hi hj
    rw [ec i j hi hj, ew i j hi hj]
    split
    · rw [List.length_append]; show _ + 1 ≤ _; omega
    · exact g.wl i j hi hj
  · have e1 := sumTo_upd (f := mo) (g := mo') f hf fun i hi h => by rw [em i hi, if_neg h]
    have e2 := sum2_upd (f := fun i j => sumP (wa i j)) (g := fun i j => sumP (wa' i j)) f t hf ht fun i j hi hj h => by rw [ew i j hi hj, if_neg h]
    have e3 := g.tot
    have e4 := em f hf
    rw [if_pos rfl] at e4
    simp only [sp] at e2
    omega
  · have e3 := g.cut
    have e4 := em f hf
    rw [if_pos rfl] at e4
    have e1 := sumTo_upd (f := fun i => if 0 ≤ no i then no i else mo i) (g := fun i => if 0 ≤ no i then no i else mo' i) f hf fun i hi h => by rw [em i hi, if_neg h]
    have e2 := sum2_upd (f := fun i j => ca i j + rst (no j) (he i j) (wa j i)) (g := fun i j => ca i j + rst (no j) (he i j) (wa' j i)) t f ht hf fun i j hi hj h => by rw [ew j i hj hi, if_neg (by omega)]
    have e5 : rst (no f) (he t f) (wa' f t) = rst (no f) (he t f) (wa f t) + if 0 ≤ no f then 0 else s := by
      unfold rst
      by_cases hn : 0 ≤ no f
      · simp only [if_pos hn]
        by_cases hh : he t f = true
        · rw [if_pos hh, if_pos hh]; rfl
        · rw [if_neg hh, if_neg hh, ew f t hf ht, if_pos ⟨rfl, rfl⟩, pre_has]
          · omega
          · have := g.cn f t hf ht
            rw [if_pos ⟨ft, hn, by simpa using hh⟩] at this
            exact List.count_pos_iff.1 (by omega)
      · simp only [if_neg hn]; exact sp
    simp only [e5] at e2
    by_cases hn : 0 ≤ no f
    · simp only [if_pos hn] at e1 e2; omega
    · simp only [if_neg hn] at e1 e2; omega
/-- a process is noted -/
theorem G.note (g : G n mo wa no he ca T) {p : Nat} (hp : p < n) (hu : no p < 0)
    (ew : ∀ i j, i < n → j < n → wa' i j = if i = p ∧ j ≠ p then wa i j ++ [-1] else wa i j) (en' : ∀ i, i < n → no' i = if i = p then mo p else no i) : G n mo wa' no' he ca T := by
  have hnp : no' p = mo p := by rw [en' p hp, if_pos rfl]
  have hno : ∀ i, i < n → i ≠ p → no' i = no i := fun i hi h => by rw [en' i hi, if_neg h]
  have hh : ∀ i, i < n → he i p = false := fun i hi => by
    cases h : he i p
    · rfl
    · have := (g.hn i p hi hp h).2.1; omega
  have nm : ∀ j, j < n → -1 ∉ wa p j := fun j hj h => by
    have h1 := g.cn p j hp hj
    rw [if_neg (by omega)] at h1
    have := List.count_pos_iff.2 h
    omega
  have m0 := g.mo0 p hp
  refine ⟨g.mo0, g.ca0, ?_, ?_, ?_, ?_, ?_, ?_, ?_, ?_⟩
  · intro i j v hi hj hv
    rw [ew i j hi hj] at hv
    split at hv
    · rcases List.mem_append.1 hv with h | h
      · exact g.en _ _ v hi hj h
      · left; exact List.mem_singleton.1 h
    · exact g.en i j v hi hj hv
  · intro i j hi hj
    rw [ew i j hi hj]
    by_cases e : i = p
    · subst e
      by_cases e2 : j = i
      · subst e2
        rw [if_neg (by omega), if_neg (by omega), g.wz j hj]; rfl
      · rw [if_pos ⟨rfl, e2⟩, if_pos ⟨fun h => e2 h.symm, by omega, hh j hj⟩, List.count_append]
        have : List.count (-1) (wa i j) = 0 := List.count_eq_zero.2 (nm j hj)
        rw [this]; rfl
    · rw [if_neg (by omega), hno i hi e]; exact g.cn i j hi hj
  · intro i j hi hj h
    obtain ⟨h1, h2, h3⟩ := g.hn i j hi hj h
    have : i ≠ p := fun e => by subst e; omega
    have : j ≠ p := fun e => by subst e; omega
    rw [hno i hi ‹_›, hno j hj ‹_›]
    exact ⟨h1, h2, h3⟩
  · intro i j hi hj h
    by_cases e : i = p
    · subst e; exact g.cz i j hi hj (.inl hu)
    · rw [hno i hi e] at h; exact g.cz i j hi hj h
  · intro i hi; rw [ew i i hi hi, if_neg (by omega)]; exact g.wz i hi
  · intro i j hi hj
    rw [ew i j hi hj]
    have := g.wl i j hi hj
    split
    · rw [List.length_append, List.count_append]; show _ + 1 ≤ 8 + (_ + 1); omega
    · exact this
  · rw [← g.tot]
    congr 1
    refine sum2_congr fun i j hi hj => ?_
    rw [ew i j hi hj]
    split
    · rw [sumP_app]; exact Int.add_zero _
    · rfl
  · rw [← g.cut]
    congr 1
    · refine sumTo_congr fun i hi => ?_
      by_cases e : i = p
      · subst e; rw [hnp, if_pos m0, if_neg (by omega)]
      · rw [hno i hi e]
    · refine sum2_congr fun i j hi hj => ?_
      congr 1
      by_cases e : j = p
      · subst e
        unfold rst
        rw [hnp, if_pos m0, hh i hi, if_neg (by decide), if_neg (by omega), ew j i hj hi]
        by_cases e2 : i = j
        · subst e2; rw [if_neg (by omega), g.wz i hi]; rfl
        · rw [if_pos ⟨rfl, e2⟩, pre_mark (nm i hi)]
      · rw [hno j hj e, ew j i hj hi, if_neg (by omega)]
/-- a mark comes to one that is noted -/
theorem G.mark (g : G n mo wa no he ca T) {f t : Nat} (hf : f < n) (ht : t < n) (ft : f ≠ t) (r : List Int) (hw : wa f t = -1 :: r) (hnt : 0 ≤ no t)
    (ew : ∀ i j, i < n → j < n → wa' i j = if i = f ∧ j = t then r else wa i j) (eh : ∀ i j, i < n → j < n → he' i j = if i = t ∧ j = f then true else he i j) : G n mo wa' no he' ca T := by
  have hc := g.cn f t hf ht
  have c1 : List.count (-1) (wa f t) = List.count (-1) r + 1 := by rw [hw]; simp
  have hy : 0 ≤ no f ∧ he t f = false := by
    by_cases h : f ≠ t ∧ 0 ≤ no f ∧ he t f = false
    · exact h.2
    · rw [if_neg h] at hc; omega
  rw [if_pos ⟨ft, hy⟩] at hc
  have cr : List.count (-1) r = 0 := by omega
  have eo : ∀ i j, i < n → j < n → ¬ (i = f ∧ j = t) → wa' i j = wa i j ∧ he' j i = he j i := fun i j hi hj h => ⟨by rw [ew i j hi hj, if_neg h], by rw [eh j i hj hi, if_neg (by omega)]⟩
  have ex : wa' f t = r ∧ he' t f = true := ⟨by rw [ew f t hf ht, if_pos ⟨rfl, rfl⟩], by rw [eh t f ht hf, if_pos ⟨rfl, rfl⟩]⟩
  have sp : sumP (wa' f t) = sumP (wa f t) := by rw [ex.1, hw]; show _ = (0 : Int) + sumP r; omega
  refine ⟨g.mo0, g.ca0, ?_, ?_, ?_, g.cz, ?_, ?_, ?_, ?_⟩
  · intro i j v hi hj hv
    rw [ew i j hi hj] at hv
    split at hv
    · next h => obtain ⟨rfl, rfl⟩ := h; exact g.en _ _ v hi hj (by rw [hw]; exact List.mem_cons_of_mem _ hv)
    · exact g.en i j v hi hj hv
  · intro i j hi hj
    by_cases h : i = f ∧ j = t
    · obtain ⟨rfl, rfl⟩ := h
      rw [ex.1, ex.2, cr, if_neg (by simp)]
    · rw [(eo i j hi hj h).1, (eo i j hi hj h).2]; exact g.cn i j hi hj
  · intro i j hi hj h
    by_cases e : i = t ∧ j = f
    · obtain ⟨rfl, rfl⟩ := e; exact ⟨hnt, hy.1, fun e => ft e.symm⟩
    · rw [eh i j hi hj, if_neg e] at h; exact g.hn i j hi hj h
  · intro i hi; rw [ew i i hi hi, if_neg (by omega)]; exact g.wz i hi
  · intro i j hi hj
    by_cases h : i = f ∧ j = t
    · obtain ⟨rfl, rfl⟩ := h
      have := g.wl i j hi hj
      rw [hw] at this
      rw [ex.1, cr]
      rw [List.count_cons, cr] at this
      simp at this
      omega
    · rw [(eo i j hi hj h).1]; exact g.wl i j hi hj
  · rw [← g.tot]
    congr 1
    refine sum2_congr fun i j hi hj => ?_
    by_cases h : i = f ∧ j = t
    · obtain ⟨rfl, rfl⟩ := h; exact sp
    · rw [(eo i j hi hj h).1]
  · rw [← g.cut]
    congr 1
    refine sum2_congr fun i j hi hj => ?_
    congr 1
    by_cases h : j = f ∧ i = t
    · obtain ⟨rfl, rfl⟩ := h
      unfold rst
      rw [if_pos hy.1, if_pos hy.1, ex.2, hy.2, if_pos rfl, if_neg (by decide), hw]
      rfl
    · rw [(eo j i hj hi h).1, (eo j i hj hi h).2]
/-- a payment comes -/
theorem G.take (g : G n mo wa no he ca T) {f t : Nat} (hf : f < n) (ht : t < n) (ft : f ≠ t) (v : Int) (r : List Int) (hw : wa f t = v :: r) (hv : v ≠ -1)
    (em : ∀ i, i < n → mo' i = if i = t then mo t + v else mo i) (ew : ∀ i j, i < n → j < n → wa' i j = if i = f ∧ j = t then r else wa i j)
    (ec : ∀ i j, i < n → j < n → ca' i j = if i = t ∧ j = f ∧ 0 ≤ no t ∧ he t f = false then ca t f + v else ca i j) : G n mo' wa' no he ca' T := by
  have v0 : 0 ≤ v := by
    have := g.en f t v hf ht (by rw [hw]; exact List.mem_cons_self)
    omega
  have c1 : List.count (-1) (wa f t) = List.count (-1) r := by rw [hw, List.count_cons, if_neg (by simpa using hv)]; rfl
  have eo : ∀ i j, i < n → j < n → ¬ (i = f ∧ j = t) → wa' i j = wa i j ∧ ca' j i = ca j i := fun i j hi hj h => ⟨by rw [ew i j hi hj, if_neg h], by rw [ec j i hj hi, if_neg (by omega)]⟩
  have ex : wa' f t = r := by rw [ew f t hf ht, if_pos ⟨rfl, rfl⟩]
  have e0 := em t ht
  rw [if_pos rfl] at e0
  have sp : sumP (wa' f t) = sumP (wa f t) - v := by
    rw [ex, hw]
    show _ = (if 0 < v then v else 0) + sumP r - v
    split <;> omega
  refine ⟨?_, ?_, ?_, ?_, g.hn, ?_, ?_, ?_, ?_, ?_⟩
  · intro i hi; rw [em i hi]
    have := g.mo0 i hi
    have := g.mo0 t ht
    split <;> omega
  · intro i j hi hj; rw [ec i j hi hj]
    have := g.ca0 i j hi hj
    have := g.ca0 t f ht hf
    split <;> omega
  · intro i j u hi hj hu
    rw [ew i j hi hj] at hu
    split at hu
    · next h => obtain ⟨rfl, rfl⟩ := h; exact g.en _ _ u hi hj (by rw [hw]; exact List.mem_cons_of_mem _ hu)
    · exact g.en i j u hi hj hu
  · intro i j hi hj
    by_cases h : i = f ∧ j = t
    · obtain ⟨rfl, rfl⟩ := h
      rw [ex, ← c1]; exact g.cn _ _ hi hj
    · rw [(eo i j hi hj h).1]; exact g.cn i j hi hj
  · intro i j hi hj h
    rw [ec i j hi hj]
    split
    · next h2 => obtain ⟨h3, h4, h5, -⟩ := h2; subst h3; subst h4; omega
    · exact g.cz i j hi hj h
  · intro i hi; rw [ew i i hi hi, if_neg (by omega)]; exact g.wz i hi
  · intro i j hi hj
    by_cases h : i = f ∧ j = t
    · obtain ⟨rfl, rfl⟩ := h
      have := g.wl i j hi hj
      rw [c1, hw, List.length_cons] at this
      rw [ex]
      omega
    · rw [(eo i j hi hj h).1]; exact g.wl i j hi hj
  · have e1 := sumTo_upd (f := mo) (g := mo') t ht fun i hi h => by rw [em i hi, if_neg h]
    have e2 := sum2_upd (f := fun i j => sumP (wa i j)) (g := fun i j => sumP (wa' i j)) f t hf ht fun i j hi hj h => by rw [(eo i j hi hj h).1]
    have e3 := g.tot
    simp only [sp] at e2
    omega
  · have e3 := g.cut
    have e1 := sumTo_upd (f := fun i => if 0 ≤ no i then no i else mo i) (g := fun i => if 0 ≤ no i then no i else mo' i) t ht fun i hi h => by rw [em i hi, if_neg h]
    have e2 := sum2_upd (f := fun i j => ca i j + rst (no j) (he i j) (wa j i)) (g := fun i j => ca' i j + rst (no j) (he i j) (wa' j i)) t f ht hf fun i j hi hj h => by rw [(eo j i hj hi (by omega)).1, (eo j i hj hi (by omega)).2]
    have e4 := ec t f ht hf
    have e5 : rst (no f) (he t f) (wa' f t) = rst (no f) (he t f) (wa f t) - if he t f = true then 0 else v := by
      unfold rst
      by_cases hn : 0 ≤ no f
      · simp only [if_pos hn]
        by_cases hh : he t f = true
        · simp only [if_pos hh]; rfl
        · simp only [if_neg hh]
          rw [ex, hw]
          show _ = (if v = -1 then 0 else (if 0 < v then v else 0) + pre r) - v
          rw [if_neg hv]
          split <;> omega
      · have hh : ¬ he t f = true := fun h => hn (g.hn t f ht hf h).2.1
        simp only [if_neg hn, if_neg hh]; exact sp
    simp only [e5] at e2
    by_cases hn : 0 ≤ no t
    · simp only [if_pos hn] at e1
      by_cases hh : he t f = true
      · rw [if_neg (by simp [hh])] at e4
        simp only [if_pos hh] at e2
        omega
      · rw [if_pos ⟨rfl, rfl, hn, by simpa using hh⟩] at e4
        simp only [if_neg hh] at e2
        omega
    · have hh : ¬ he t f = true := fun h => hn (g.hn t f ht hf h).1
      rw [if_neg (by omega)] at e4
      simp only [if_neg hn] at e1
      simp only [if_neg hh] at e2
      omega
end
end Go.Proofs.YtjgdpblaghhfhaaDoor.N

/- Banks: what holds of a bank at all times. -/
namespace Go.Proofs.YtjgdpblaghhfhaaDoor.N
open Go.Vc
structure Gd (n : Nat) (b : Bk) (T : Int) : Prop where
  n1 : 1 ≤ n
  n5 : n ≤ 5
  mo : b.mo.length = n
  no : b.no.length = n
  wa : Sq b.wa n
  he : Sq b.he n
  ca : Sq b.ca n
  g : G n (fun i => b.mo.getD i 0) (at3 b.wa) (fun i => b.no.getD i 0) (at2b b.he) (at2 b.ca) T
  b0 : b.bg = false → ∀ i, i < n → b.no.getD i 0 < 0
  b1 : b.bg = true → ∃ i, i < n ∧ 0 ≤ b.no.getD i 0
theorem at3_wr {k : L3} {n : Nat} (h : Sq k n) {a b : Nat} (v : List Int) (ha : a < n) (hb : b < n) (i j : Nat) : at3 (wr3 k a b v) i j = if i = a ∧ j = b then v else at3 k i j := by
  have := atG_wr h v [] ha hb i j
  refine this.trans ?_
  by_cases e : i = a ∧ j = b
  · rw [if_pos e, if_pos ⟨e.1.symm, e.2.symm⟩]
  · rw [if_neg e, if_neg fun h => e ⟨h.1.symm, h.2.symm⟩]; rfl
theorem at2_wr {k : L2} {n : Nat} (h : Sq k n) {a b : Nat} (v : Int) (ha : a < n) (hb : b < n) (i j : Nat) : at2 (wr2 k a b v) i j = if i = a ∧ j = b then v else at2 k i j := by
  have := atG_wr h v 0 ha hb i j
  refine this.trans ?_
  by_cases e : i = a ∧ j = b
  · rw [if_pos e, if_pos ⟨e.1.symm, e.2.symm⟩]
  · rw [if_neg e, if_neg fun h => e ⟨h.1.symm, h.2.symm⟩]; rfl
theorem at2b_wr {k : B2} {n : Nat} (h : Sq k n) {a b : Nat} (v : Bool) (ha : a < n) (hb : b < n) (i j : Nat) : at2b (wr2b k a b v) i j = if i = a ∧ j = b then v else at2b k i j := by
  have := atG_wr h v false ha hb i j
  refine this.trans ?_
  by_cases e : i = a ∧ j = b
  · rw [if_pos e, if_pos ⟨e.1.symm, e.2.symm⟩]
  · rw [if_neg e, if_neg fun h => e ⟨h.1.symm, h.2.symm⟩]; rfl
theorem getD_set' {α : Type} (l : List α) (a : Nat) (v d : α) (i : Nat) (ha : a < l.length) : (l.set a v).getD i d = if i = a then v else l.getD i d := by
  rw [getD_set l a i v d ha]
  by_cases e : i = a
  · rw [if_pos e, if_pos e.symm]
  · rw [if_neg e, if_neg fun h => e h.symm]
theorem noteW_at' {w : L3} {n : Nat} (h : Sq w n) {p : Nat} (hp : p < n) {i j : Nat} (hj : j < n) : at3 (noteW w p n) i j = if i = p ∧ j ≠ p then at3 w i j ++ [-1] else at3 w i j := by
  rw [noteW_at h hp i j n (Nat.le_refl n)]
  by_cases e : i = p ∧ j ≠ p
  · rw [if_pos e, if_pos ⟨e.1, hj, e.2⟩]
  · rw [if_neg e, if_neg fun h => e ⟨h.1, h.2.2⟩]
section
variable {n : Nat} {b : Bk} {T : Int}
theorem Gd.note (g : Gd n b T) {p : Nat} (hp : p < n) (hu : b.no.getD p 0 < 0) : Gd n (noteF b p) T := by
  have hpn : p < b.no.length := by rw [g.no]; exact hp
  refine ⟨g.n1, g.n5, g.mo, (List.length_set ..).trans g.no, ?_, g.he, g.ca, ?_, fun h : true = false => absurd h (by decide), fun _ => ⟨p, hp, ?_⟩⟩
  · show Sq (noteW b.wa p b.mo.length) n
    exact noteW_sq g.wa hp _
  · refine g.g.note hp hu (fun i j hi hj => ?_) fun i hi => getD_set' _ _ _ _ _ hpn
    show at3 (noteW b.wa p b.mo.length) i j = _
    rw [g.mo]
    exact noteW_at' g.wa hp hj
  · show 0 ≤ (b.no.set p (b.mo.getD p 0)).getD p 0
    rw [getD_set' _ _ _ _ _ hpn, if_pos rfl]
    exact g.g.mo0 p hp
theorem drop_one {l : List Int} (h : l.length ≠ 0) : l = l.getD 0 0 :: l.drop 1 := by
  cases l with
  | nil => exact absurd rfl h
  | cons a r => rfl
theorem Gd.come (g : Gd n b T) {f t : Nat} (hf : f < n) (ht : t < n) (ft : f ≠ t) (hl : (at3 b.wa f t).length ≠ 0) :
    Gd n (comeF ⟨b.mo, wr3 b.wa f t ((at3 b.wa f t).drop 1), b.no, b.he, b.ca, b.bg⟩ ((at3 b.wa f t).getD 0 0) f t) T := by
  have hd := drop_one hl
  have s1 : Sq (wr3 b.wa f t ((at3 b.wa f t).drop 1)) n := Sq.wr g.wa _ hf
  unfold comeF
  by_cases e : (at3 b.wa f t).getD 0 0 = -1
  · rw [if_pos e]
    rw [e] at hd
    have hN : 0 ≤ b.no.getD f 0 := by
      have := g.g.cn f t hf ht
      by_cases h : f ≠ t ∧ 0 ≤ b.no.getD f 0 ∧ at2b b.he t f = false
      · exact h.2.1
      · rw [if_neg h, hd] at this; simp at this
    by_cases hn : b.no.getD t 0 < 0
    · simp only [if_pos hn]
      have htn : t < b.no.length := by rw [g.no]; exact ht
      refine ⟨g.n1, g.n5, g.mo, (List.length_set ..).trans g.no, noteW_sq s1 ht _, Sq.wr g.he _ ht, g.ca, ?_, fun h : true = false => absurd h (by decide), fun _ => ⟨t, ht, ?_⟩⟩
      · have g1 := g.g.note (wa' := fun i j => if i = t ∧ j ≠ t then at3 b.wa i j ++ [-1] else at3 b.wa i j) (no' := fun i => if i = t then b.mo.getD t 0 else b.no.getD i 0) ht hn (fun i j hi hj => rfl) (fun i hi => rfl)
        have g2 := g1.mark (wa' := at3 (noteW (wr3 b.wa f t ((at3 b.wa f t).drop 1)) t n)) (he' := at2b (wr2b b.he t f true)) hf ht ft ((at3 b.wa f t).drop 1) (by
            show (if f = t ∧ t ≠ t then _ else _) = _
            rw [if_neg (by omega)]; exact hd) (by
            show 0 ≤ if t = t then _ else _
            rw [if_pos rfl]; exact g.g.mo0 t ht) (fun i j hi hj => by
            show _ = if i = f ∧ j = t then _ else (if i = t ∧ j ≠ t then _ else _)
            rw [noteW_at' s1 ht hj, at3_wr g.wa _ hf ht]
            by_cases e1 : i = f ∧ j = t
            · rw [if_neg (by omega), if_pos e1, if_pos e1]
            · rw [if_neg e1, if_neg e1]) fun i j hi hj => at2b_wr g.he _ ht hf i j
        have e1 : (fun i => (b.no.set t (b.mo.getD t 0)).getD i 0) = fun i => if i = t then b.mo.getD t 0 else b.no.getD i 0 := funext fun i => getD_set' _ _ _ _ _ htn
        show G n (fun i => b.mo.getD i 0) (at3 (noteW (wr3 b.wa f t ((at3 b.wa f t).drop 1)) t b.mo.length)) (fun i => (b.no.set t (b.mo.getD t 0)).getD i 0) (at2b (wr2b b.he t f true)) (at2 b.ca) T
        rw [e1, g.mo]
        exact g2
      · show 0 ≤ (b.no.set t (b.mo.getD t 0)).getD t 0
        rw [getD_set' _ _ _ _ _ htn, if_pos rfl]
        exact g.g.mo0 t ht
    · simp only [if_neg hn]
      refine ⟨g.n1, g.n5, g.mo, g.no, s1, Sq.wr g.he _ ht, g.ca, ?_, g.b0, g.b1⟩
      exact g.g.mark hf ht ft ((at3 b.wa f t).drop 1) hd (by omega) (fun i j hi hj => at3_wr g.wa _ hf ht i j) fun i j hi hj => at2b_wr g.he _ ht hf i j
  · rw [if_neg e]
    have htm : t < b.mo.length := by rw [g.mo]; exact ht
    have gg : ∀ ca', (∀ i j, i < n → j < n → at2 ca' i j = if i = t ∧ j = f ∧ 0 ≤ b.no.getD t 0 ∧ at2b b.he t f = false then at2 b.ca t f + (at3 b.wa f t).getD 0 0 else at2 b.ca i j) → G n (fun i => (b.mo.set t (b.mo.getD t 0 + (at3 b.wa f t).getD 0 0)).getD i 0) (at3 (wr3 b.wa f t ((at3 b.wa f t).drop 1))) (fun i => b.no.getD i 0) (at2b b.he) (at2 ca') T := fun ca' hc =>
      g.g.take hf ht ft _ _ hd e (fun i hi => getD_set' _ _ _ _ _ htm) (fun i j hi hj => at3_wr g.wa _ hf ht i j) hc
    by_cases hc : 0 ≤ b.no.getD t 0 ∧ at2b b.he t f = false
    · simp only [if_pos hc]
      refine ⟨g.n1, g.n5, (List.length_set ..).trans g.mo, g.no, s1, g.he, Sq.wr g.ca _ ht, gg _ fun i j hi hj => ?_, g.b0, g.b1⟩
      rw [at2_wr g.ca _ ht hf]
      by_cases e1 : i = t ∧ j = f
      · rw [if_pos e1, if_pos ⟨e1.1, e1.2, hc⟩]
      · rw [if_neg e1, if_neg fun h => e1 ⟨h.1, h.2.1⟩]
    · simp only [if_neg hc]
      refine ⟨g.n1, g.n5, (List.length_set ..).trans g.mo, g.no, s1, g.he, g.ca, gg _ fun i j hi hj => ?_, g.b0, g.b1⟩
      rw [if_neg fun h => hc h.2.2]
theorem Gd.move (g : Gd n b T) (k f t s : Int) : Gd n (doF b k f t s).2 T := by
  unfold doF
  by_cases h1 : inB k 0 2 = false ∨ inB f 0 ((b.mo.length : Int) - 1) = false
  · rw [if_pos h1]; exact g
  rw [if_neg h1]
  have hf : 0 ≤ f ∧ f ≤ (b.mo.length : Int) - 1 := inB_iff.1 (by
    cases h : inB f 0 ((b.mo.length : Int) - 1)
    · exact absurd (.inr h) h1
    · rfl)
  rw [g.mo] at hf
  have hf' : f.toNat < n := by omega
  by_cases h2 : k = 2
  · rw [if_pos h2]
    by_cases h3 : b.bg = true
    · rw [if_pos h3]; exact g
    · rw [if_neg h3]; exact g.note hf' (g.b0 (by simpa using h3) _ hf')
  rw [if_neg h2]
  by_cases h3 : inB t 0 ((b.mo.length : Int) - 1) = false
  · rw [if_pos h3]; exact g
  rw [if_neg h3]
  have ht : 0 ≤ t ∧ t ≤ (b.mo.length : Int) - 1 := inB_iff.1 (by simpa using h3)
  rw [g.mo] at ht
  have ht' : t.toNat < n := by omega
  by_cases h4 : f = t
  · rw [if_pos h4]; exact g
  rw [if_neg h4]
  have ft : f.toNat ≠ t.toNat := by omega
  by_cases h5 : k = 0
  · rw [if_pos h5]
    by_cases h6 : inB s 0 1000 = false
    · rw [if_pos h6]; exact g
    rw [if_neg h6]
    have hs : 0 ≤ s ∧ s ≤ 1000 := inB_iff.1 (by simpa using h6)
    by_cases h7 : b.mo.getD f.toNat 0 < s
    · rw [if_pos h7]; exact g
    rw [if_neg h7]
    by_cases h8 : 8 ≤ (at3 b.wa f.toNat t.toNat).length
    · rw [if_pos h8]; exact g
    rw [if_neg h8]
    refine ⟨g.n1, g.n5, (List.length_set ..).trans g.mo, g.no, Sq.wr g.wa _ hf', g.he, g.ca, ?_, g.b0, g.b1⟩
    exact g.g.pay hf' ht' ft hs.1 hs.2 (by omega) (by omega) (fun i hi => getD_set' _ _ _ _ _ (by rw [g.mo]; exact hf')) fun i j hi hj => at3_wr g.wa _ hf' ht' i j
  · rw [if_neg h5]
    by_cases h6 : (at3 b.wa f.toNat t.toNat).length = 0
    · rw [if_pos h6]; exact g
    · rw [if_neg h6]; exact g.come hf' ht' ft h6
theorem Gd.bks (g : Gd n b T) (hT : T ≤ 100000) : BkS b := by
  have gg := g.g
  have w0 := sum2_nonneg (n := n) (f := fun i j => sumP (at3 b.wa i j)) fun i j _ _ => sumP_nonneg _
  have m0 := sumTo_nonneg (n := n) (f := fun i => b.mo.getD i 0) gg.mo0
  have c0 : ∀ i j, i < n → j < n → 0 ≤ at2 b.ca i j + rst (b.no.getD j 0) (at2b b.he i j) (at3 b.wa j i) := fun i j hi hj => by
    have := gg.ca0 i j hi hj
    have := rst_nonneg (b.no.getD j 0) (at2b b.he i j) (at3 b.wa j i)
    omega
  have x0 := sumTo_nonneg (n := n) (f := fun i => if 0 ≤ b.no.getD i 0 then b.no.getD i 0 else b.mo.getD i 0) fun i hi => by
    have := gg.mo0 i hi
    split <;> omega
  refine ⟨by rw [g.mo]; exact g.n1, by rw [g.mo]; exact g.n5, by rw [g.mo, g.no], by rw [g.mo]; exact g.wa.1, by rw [g.mo]; exact g.wa.2, ?_, by rw [g.mo]; exact g.he.1, by rw [g.mo]; exact g.he.2, by rw [g.mo]; exact g.ca.1, by rw [g.mo]; exact g.ca.2, ?_, ?_, ?_⟩
  · intro i j hi hj
    rw [g.mo] at hi hj
    have h1 := gg.wl i j hi hj
    have h2 := gg.cn i j hi hj
    split at h2 <;> omega
  · intro i hi
    rw [g.mo] at hi
    have h1 := gg.mo0 i hi
    have h2 := le_sumTo (n := n) (f := fun i => b.mo.getD i 0) gg.mo0 i hi
    have h3 := gg.tot
    omega
  · intro i j hi hj
    rw [g.mo] at hi hj
    have h1 := gg.ca0 i j hi hj
    have h2 := le_sum2 (n := n) c0 i j hi hj
    have h3 := gg.cut
    have h4 := rst_nonneg (b.no.getD j 0) (at2b b.he i j) (at3 b.wa j i)
    omega
  · intro i j v hi hj hv
    rw [g.mo] at hi hj
    have := gg.en i j v hi hj hv
    omega
end
theorem sumTo_zero (n : Nat) : sumTo n (fun _ => 0) = 0 := by
  induction n with
  | zero => rfl
  | succ m ih => show sumTo m (fun _ => 0) + 0 = 0; rw [ih]; rfl
theorem sum2_zero (n : Nat) : sum2 n (fun _ _ => 0) = 0 := (sumTo_congr fun i _ => sumTo_zero n).trans (sumTo_zero n)
theorem sumTo_sumL : ∀ (l : List Int) (i : Nat), i ≤ l.length → sumTo i (fun i => l.getD i 0) = sumL (l.take i)
  | l, 0, _ => by rw [List.take_zero]; rfl
  | l, i + 1, h => by
    show sumTo i _ + l.getD i 0 = _
    rw [sumTo_sumL l i (by omega), take_snoc (by omega), sumL_app]
    show _ = _ + (l.getD i 0 + 0)
    omega
theorem sumL_le1000 : ∀ (l : List Int), (∀ v ∈ l, v ≤ 1000) → sumL l ≤ 1000 * (l.length : Int)
  | [], _ => Int.le_refl 0
  | v :: r, h => by
    have h1 := sumL_le1000 r fun v hv => h v (List.mem_cons_of_mem _ hv)
    have h2 := h v List.mem_cons_self
    show v + sumL r ≤ 1000 * ((r.length + 1 : Nat) : Int)
    omega
theorem getD_rep {α : Type} (n i : Nat) (v d : α) (h : i < n) : (List.replicate n v).getD i d = v := by
  rw [List.getD_eq_getElem?_getD, List.getElem?_replicate, if_pos h]; rfl
theorem newE_zero {mo : List Int} (h : newE mo = 0) : 1 ≤ mo.length ∧ mo.length ≤ 5 ∧ ∀ v ∈ mo, 0 ≤ v ∧ v ≤ 1000 := by
  unfold newE at h
  by_cases h1 : mo.length = 0
  · rw [if_pos h1] at h; exact absurd h (by decide)
  rw [if_neg h1] at h
  by_cases h2 : 5 < mo.length
  · rw [if_pos h2] at h; exact absurd h (by decide)
  rw [if_neg h2] at h
  by_cases h3 : moOk mo = true
  · exact ⟨by omega, by omega, fun v hv => inB_iff.1 (List.all_eq_true.1 h3 v hv)⟩
  · rw [if_neg h3] at h; exact absurd h (by decide)
theorem Gd.new {mo : List Int} (h : newE mo = 0) : Gd mo.length (newB mo) (sumL mo) := by
  obtain ⟨h1, h5, hv⟩ := newE_zero h
  have sq : ∀ {α : Type} (v : α), Sq (List.replicate mo.length (List.replicate mo.length v)) mo.length := fun v => ⟨List.length_replicate, fun i hi => by rw [getD_rep _ _ _ _ hi]; exact List.length_replicate⟩
  have a3 : ∀ i j, i < mo.length → at3 (newB mo).wa i j = [] := fun i j hi => by
    show ((List.replicate mo.length (List.replicate mo.length ([] : List Int))).getD i []).getD j [] = []
    rw [getD_rep _ _ _ _ hi]
    by_cases hj : j < mo.length
    · exact getD_rep _ _ _ _ hj
    · rw [List.getD_eq_getElem?_getD, List.getElem?_replicate, if_neg hj]; rfl
  have a2 : ∀ i j, i < mo.length → j < mo.length → at2 (newB mo).ca i j = 0 := fun i j hi hj => by
    show ((List.replicate mo.length (List.replicate mo.length (0 : Int))).getD i []).getD j 0 = 0
    rw [getD_rep _ _ _ _ hi, getD_rep _ _ _ _ hj]
  have a2b : ∀ i j, i < mo.length → j < mo.length → at2b (newB mo).he i j = false := fun i j hi hj => by
    show ((List.replicate mo.length (List.replicate mo.length false)).getD i []).getD j false = false
    rw [getD_rep _ _ _ _ hi, getD_rep _ _ _ _ hj]
  have an : ∀ i, i < mo.length → (newB mo).no.getD i 0 = -1 := fun i hi => getD_rep _ _ _ _ hi
  have st : sumTo mo.length (fun i => mo.getD i 0) = sumL mo := by rw [sumTo_sumL mo _ (Nat.le_refl _), List.take_length]
  refine ⟨h1, h5, rfl, List.length_replicate, sq _, sq _, sq _, ⟨?_, ?_, ?_, ?_, ?_, ?_, ?_, ?_, ?_, ?_⟩, fun _ i hi => by rw [an i hi]; decide, fun h : false = true => absurd h (by decide)⟩
  · intro i hi; exact (hv _ (getD_memL hi 0)).1
  · intro i j hi hj; rw [a2 i j hi hj]; decide
  · intro i j v hi hj hv; rw [a3 i j hi] at hv; cases hv
  · intro i j hi hj; rw [a3 i j hi, if_neg]; · rfl
    · rw [an i hi]; exact fun h => absurd h.2.1 (by decide)
  · intro i j hi hj h; rw [a2b i j hi hj] at h; exact absurd h (by decide)
  · intro i j hi hj _; exact a2 i j hi hj
  · intro i hi; exact a3 i i hi
  · intro i j hi hj; rw [a3 i j hi]; exact Nat.zero_le _
  · show sumTo mo.length (fun i => mo.getD i 0) + _ = _
    rw [st, sum2_congr (g := fun _ _ => 0) fun i j hi hj => by rw [a3 i j hi]; rfl, sum2_zero]; omega
  · rw [sum2_congr (g := fun _ _ => 0) fun i j hi hj => by rw [a2 i j hi hj, a3 j i hj, an j hj]; rfl, sum2_zero, sumTo_congr (g := fun i => mo.getD i 0) fun i hi => by rw [an i hi]; rfl, st]; omega
theorem Gd.fold {n : Nat} {T : Int} : ∀ (l : List Mv) {b : Bk}, Gd n b T → Gd n (l.foldl stepB b) T
  | [], _, g => g
  | m :: r, _, g => Gd.fold r (g.move m.1 m.2.1 m.2.2.1 m.2.2.2.1)
theorem Gd.at {mo : List Int} (h : newE mo = 0) (mv : List Mv) (i : Nat) : Gd mo.length (bAt mo mv i) (sumL mo) := Gd.fold _ (Gd.new h)
theorem sumL_T {mo : List Int} (h : newE mo = 0) : sumL mo ≤ 5000 := by
  obtain ⟨h1, h5, hv⟩ := newE_zero h
  have := sumL_le1000 mo fun v h => (hv v h).2
  omega
theorem Gd.whole {n : Nat} {b : Bk} {T : Int} (g : Gd n b T) : wholeF b = T := by
  have h := g.g.tot
  have e : sumTo n (fun i => b.mo.getD i 0) = sumL b.mo := by rw [sumTo_sumL b.mo n (by rw [g.mo]; exact Nat.le_refl n), ← g.mo, List.take_length]
  rw [e] at h
  unfold wholeF
  rw [g.mo]
  exact h
end Go.Proofs.YtjgdpblaghhfhaaDoor.N

/- Banks: the law that the program does what the reference does. -/
namespace Go.Proofs.YtjgdpblaghhfhaaDoor.N
open Go.Vc
def newXq (mo : List Int) : Xb := if newE mo = 0 then newXB mo else zXB
def mvX (x : Xb) (m : Mv) : Xb × Int := moveX x m.1 m.2.1 m.2.2.1 m.2.2.2.1
def allXq (x : Xb) : Bool := allX x x.1.length
def doE (b : Bk) (m : Mv) : Int := (doF b m.1 m.2.1 m.2.2.1 m.2.2.2.1).1
theorem newXq_eq (mo : List Int) : newXq mo = if newE mo = 0 then newXB mo else zXB := rfl
theorem mvX_eq (x : Xb) (m : Mv) : mvX x m = moveX x m.1 m.2.1 m.2.2.1 m.2.2.2.1 := rfl
theorem allXq_eq (x : Xb) : allXq x = allX x x.1.length := rfl
theorem doE_eq (b : Bk) (m : Mv) : doE b m = (doF b m.1 m.2.1 m.2.2.1 m.2.2.2.1).1 := rfl
def cNewXq : Ctr := cdet [.sl I] (fun _ => True) (fun (mo : List Int) => [⟨tXB, newXq mo⟩, ⟨I, newE mo⟩])
def cMvX : Ctr := cdet [tXB, tMove] (fun (x : Xb) (_ : Mv) => XbOk x) (fun (x : Xb) (m : Mv) => [⟨tXB, (mvX x m).1⟩, ⟨I, (mvX x m).2⟩])
def cAllXq : Ctr := cdet [tXB] (fun (x : Xb) => XbOk x) (fun (x : Xb) => [⟨.bool, allXq x⟩])
theorem okNewXq : PlainOk Tryd.prog glK 21 cNewXq := okNewXB
theorem okMvX : PlainOk Tryd.prog glK 23 cMvX := okRMove
theorem okAllXq : PlainOk Tryd.prog glK 28 cAllXq := okAllX
def oDoq : OCtr := fun args ob k =>
  match args, ob with
  | [.ps 0, .d (.pr (.int .i64) (.pr (.int .i64) (.pr (.int .i64) (.pr (.int .i64) .un)))) m], [.st 90 [.os 1, .os 2, .os 3, .os 4, .os 5, .d .bool bg], .row 3 (.int .i64) mo, .trow 41 oW wa, .row 3 (.int .i64) no, .trow 30 oH he, .trow 29 oR ca] =>
    BkS ⟨mo, wa, no, he, ca, bg⟩ ∧ k (.d tErr (doE ⟨mo, wa, no, he, ca, bg⟩ m)) (bob (stepB ⟨mo, wa, no, he, ca, bg⟩ m))
  | _, _ => False
theorem okDoq : OwnOk Tryd.prog glK 24 oDoq := okDo
attribute [irreducible] newXq mvX allXq doE
def Ey : Env := { Et with tys := Et.tys ++ [(58, tXB)] }
theorem Ey_ok : EnvOk Tryd.prog Ey := EnvOk.of_list (by kernel_rfl) (by kernel_rfl) (by kernel_rfl)
/-- a bank, behind the reference's -/
def bobV (x : Xb) (b : Bk) : List Ob := [.var 58 tXB x, .st 90 [.os 2, .os 3, .os 4, .os 5, .os 6, .d .bool b.bg], .row 3 I b.mo, .trow 41 oW b.wa, .row 3 I b.no, .trow 30 oH b.he, .trow 29 oR b.ca]
/-- a bank, and the reference's -/
structure RB (n : Nat) (b : Bk) (x : Xb) : Prop where
  g : ∃ T, T ≤ 5000 ∧ Gd n b T
  mo : x.1 = b.mo
  no : x.2.1 = b.no
  wl : x.2.2.1.length = n * n
  hl : x.2.2.2.1.length = n * n
  cl : x.2.2.2.2.1.length = n * n
  wa : ∀ i j, i < n → j < n → x.2.2.1.getD (i * n + j) [] = at3 b.wa i j
  he : ∀ i j, i < n → j < n → x.2.2.2.1.getD (i * n + j) false = at2b b.he i j
  ca : ∀ i j, i < n → j < n → x.2.2.2.2.1.getD (i * n + j) 0 = at2 b.ca i j
  bg : x.2.2.2.2.2.1 = b.bg
  m1 : ∀ i, i < n → -1 ≤ b.no.getD i 0
def nilL2 : L2 := []
attribute [irreducible] nilL2
/-- what was noted: rows of the call's own, or nothing -/
def stN (st : St) : St := if 13 < st.ob.length then St.only st [0, 1, 5, 7, 9, 10, 13, 14, 15] else St.at (St.only st [0, 1, 5, 7, 9, 10, 15]) [(14, .d (.sl (.sl I)) nilL2)]
def anPlays (mo : List Int) (mv : List Mv) : Ann :=
  [joinAll,
   loopAt 7 (Nat × Bk × Xb) [] (fun st x => { St.at (St.only st [0, 1, 5, 7, 9]) [(10, .d I (x.1 : Int))] with ob := bobV x.2.2 x.2.1 }) (fun _ x => (x.1 ≤ mv.length ∧ x.1 ≤ 100) ∧ RB mo.length x.2.1 x.2.2) (fun x => mv.length - x.1),
   meetAt 13 (Bk × Xb) [] (fun st x => { St.only st [0, 1, 5, 7, 9, 10] with ob := bobV x.2 x.1 }) (fun _ x => RB mo.length x.1 x.2),
   meetAt 16 Nat [] (fun st _ => stN st) (fun _ _ => True),
   loopAt 17 Nat [] (fun st p => St.at (St.only st [0, 1, 5, 7, 9, 10, 13, 14, 15]) [(16, .d I (p : Int))]) (fun _ p => p ≤ mo.length ∧ True) (fun p => mo.length - p),
   openAt 19 [fun st => (8, if 13 < st.ob.length then (st.i 16).toNat else 0, [])] [fun _ => 8],
   loopAt 22 Nat [] (fun st q => St.at (St.only st [0, 1, 5, 7, 9, 10, 13, 14, 15, 16]) [(17, .d I (q : Int))]) (fun _ q => q ≤ mo.length ∧ True) (fun q => mo.length - q)]
end Go.Proofs.YtjgdpblaghhfhaaDoor.N

/- What the functions of this seat have to satisfy, by program: each verification condition in plain words. -/
namespace Go.Proofs.YtjgdpblaghhfhaaDoor
open Go.Vc Go.Proofs.YtjgdpblaghhfhaaDoor.N
set_option linter.unusedVariables false
theorem vcPlays (mo : List Int) (mv : List Mv) (k : List Dat → Prop) : vcF ⟨Ey, [(7, cError), (21, cNewXq), (23, cMvX), (28, cAllXq), (25, cInts)], glK, [], [(22, oNew), (24, oDoq), (26, oMoney), (27, oNoted), (29, oWay)]⟩ (anPlays mo mv) (Tryd.f5.body.getD .skip) Tryd.f5.ntmps [(.tmp 4, .bool)] [⟨.sl I, mo⟩, ⟨.sl tMove, mv⟩] k = (
  True ∧ (newE mo = (0 : Int) → ((!decide (newE mo = (0 : Int))) = true → (inK IntKind.i64 (0 : Int) ∧ True) ∧ k [Dat.mk Ty.bool (decide ((0 : Int) = newE mo))]) ∧ ((!decide (newE mo = (0 : Int))) = false → ((!decide ((0 : Int) = (0 : Int))) = true → (inK IntKind.i64 (0 : Int) ∧ True) ∧ k [Dat.mk Ty.bool (decide ((0 : Int) = newE mo))]) ∧ ((!decide ((0 : Int) = (0 : Int))) = false → (∃ (x : Nat × Bk × Xb), ((x.fst ≤ mv.length ∧ x.fst ≤ (100 : Nat)) ∧ RB mo.length x.snd.fst x.snd.snd) ∧ (mo = mo ∧ mv = mv ∧ ([] : List Nat) = [] ∧ True ∧ (↑mo.length : Int) = (↑mo.length : Int) ∧ (0 : Int) = (↑x.fst : Int) ∧ True) ∧ (((58 : Nat) = (58 : Nat) ∧ newXq mo = x.snd.snd) ∧ (True ∧ True ∧ True ∧ True ∧ True ∧ false = x.snd.fst.bg ∧ True) ∧ ((3 : Nat) = (3 : Nat) ∧ mo = x.snd.fst.mo) ∧ List.replicate mo.length (List.replicate mo.length []) = x.snd.fst.wa ∧ ((3 : Nat) = (3 : Nat) ∧ List.replicate mo.length (-1 : Int) = x.snd.fst.no) ∧ List.replicate mo.length (List.replicate mo.length false) = x.snd.fst.he ∧ List.replicate mo.length (List.replicate mo.length (0 : Int)) = x.snd.fst.ca ∧ True) ∧ hdE = hdE ∧ True) ∧ ∀ (x : Nat × Bk × Xb), (x.fst ≤ mv.length ∧ x.fst ≤ (100 : Nat)) ∧ RB mo.length x.snd.fst x.snd.snd → (decide ((↑x.fst : Int) < (↑mv.length : Int)) = true → (decide ((↑x.fst : Int) < (100 : Int)) = true → (0 : Int) ≤ (↑x.fst : Int) ∧ (↑x.fst : Int) < (↑mv.length : Int) ∧ XbOk x.snd.snd ∧ (0 : Int) ≤ (↑x.fst : Int) ∧ (↑x.fst : Int) < (↑mv.length : Int) ∧ XbOk x.snd.snd ∧ (mo = mo ∧ mv = mv ∧ SV.pv ((I).sl.pr ((I).sl.pr ((I).sl.sl.pr (Ty.bool.sl.pr ((I).sl.pr (Ty.bool.pr Ty.un)))))) (0 : Nat) [] = SV.pv ((I).sl.pr ((I).sl.pr ((I).sl.sl.pr (Ty.bool.sl.pr ((I).sl.pr (Ty.bool.pr Ty.un)))))) (0 : Nat) [] ∧ SV.ps (1 : Nat) = SV.ps (1 : Nat) ∧ (↑mo.length : Int) = (↑mo.length : Int) ∧ (↑x.fst : Int) = (↑x.fst : Int) ∧ (↑x.fst : Int) = (↑x.fst : Int) ∧ mv = mv ∧ (↑mv.length : Int) = (↑mv.length : Int) ∧ decide ((↑x.fst : Int) < (↑mv.length : Int)) = decide ((↑x.fst : Int) < (↑mv.length : Int)) ∧ SV.bt true = SV.bt true ∧ (↑x.fst : Int) = (↑x.fst : Int) ∧ decide ((↑x.fst : Int) < (100 : Int)) = decide ((↑x.fst : Int) < (100 : Int)) ∧ decide ((↑x.fst : Int) < (100 : Int)) = decide ((↑x.fst : Int) < (100 : Int)) ∧ SV.tp [SV.d ((I).sl.pr ((I).sl.pr ((I).sl.sl.pr (Ty.bool.sl.pr ((I).sl.pr (Ty.bool.pr Ty.un)))))) (mvX x.snd.snd (mv.getD (↑x.fst : Int).toNat ((0 : Int), (0 : Int), (0 : Int), (0 : Int), ()))).fst, SV.d (I) (mvX x.snd.snd (mv.getD (↑x.fst : Int).toNat ((0 : Int), (0 : Int), (0 : Int), (0 : Int), ()))).snd] = SV.tp [SV.d ((I).sl.pr ((I).sl.pr ((I).sl.sl.pr (Ty.bool.sl.pr ((I).sl.pr (Ty.bool.pr Ty.un)))))) (mvX x.snd.snd (mv.getD (↑x.fst : Int).toNat ((0 : Int), (0 : Int), (0 : Int), (0 : Int), ()))).fst, SV.d (I) (mvX x.snd.snd (mv.getD (↑x.fst : Int).toNat ((0 : Int), (0 : Int), (0 : Int), (0 : Int), ()))).snd] ∧ x.snd.snd = x.snd.snd ∧ mv = mv ∧ (↑x.fst : Int) = (↑x.fst : Int) ∧ SV.ra ((I).pr ((I).pr ((I).pr ((I).pr Ty.un)))) (mv.getD (↑x.fst : Int).toNat ((0 : Int), (0 : Int), (0 : Int), (0 : Int), ())) = SV.ra ((I).pr ((I).pr ((I).pr ((I).pr Ty.un)))) (mv.getD (↑x.fst : Int).toNat ((0 : Int), (0 : Int), (0 : Int), (0 : Int), ())) ∧ mv.getD (↑x.fst : Int).toNat ((0 : Int), (0 : Int), (0 : Int), (0 : Int), ()) = mv.getD (↑x.fst : Int).toNat ((0 : Int), (0 : Int), (0 : Int), (0 : Int), ()) ∧ SV.tp [SV.d ((I).sl.pr ((I).sl.pr ((I).sl.sl.pr (Ty.bool.sl.pr ((I).sl.pr (Ty.bool.pr Ty.un)))))) (mvX x.snd.snd (mv.getD (↑x.fst : Int).toNat ((0 : Int), (0 : Int), (0 : Int), (0 : Int), ()))).fst, SV.d (I) (mvX x.snd.snd (mv.getD (↑x.fst : Int).toNat ((0 : Int), (0 : Int), (0 : Int), (0 : Int), ()))).snd] = SV.tp [SV.d ((I).sl.pr ((I).sl.pr ((I).sl.sl.pr (Ty.bool.sl.pr ((I).sl.pr (Ty.bool.pr Ty.un)))))) (mvX x.snd.snd (mv.getD (↑x.fst : Int).toNat ((0 : Int), (0 : Int), (0 : Int), (0 : Int), ()))).fst, SV.d (I) (mvX x.snd.snd (mv.getD (↑x.fst : Int).toNat ((0 : Int), (0 : Int), (0 : Int), (0 : Int), ()))).snd] ∧ (mvX x.snd.snd (mv.getD (↑x.fst : Int).toNat ((0 : Int), (0 : Int), (0 : Int), (0 : Int), ()))).fst = (mvX x.snd.snd (mv.getD (↑x.fst : Int).toNat ((0 : Int), (0 : Int), (0 : Int), (0 : Int), ()))).fst ∧ (mvX x.snd.snd (mv.getD (↑x.fst : Int).toNat ((0 : Int), (0 : Int), (0 : Int), (0 : Int), ()))).snd = (mvX x.snd.snd (mv.getD (↑x.fst : Int).toNat ((0 : Int), (0 : Int), (0 : Int), (0 : Int), ()))).snd ∧ True) ∧ ((0 : Int) ≤ (↑x.fst : Int) ∧ (↑x.fst : Int) < (↑mv.length : Int) ∧ True ∧ BkS (Bk.mk x.snd.fst.mo x.snd.fst.wa x.snd.fst.no x.snd.fst.he x.snd.fst.ca x.snd.fst.bg) ∧ (inK IntKind.i64 (doE (Bk.mk x.snd.fst.mo x.snd.fst.wa x.snd.fst.no x.snd.fst.he x.snd.fst.ca x.snd.fst.bg) (mv.getD (↑x.fst : Int).toNat ((0 : Int), (0 : Int), (0 : Int), (0 : Int), ()))) ∧ True) ∧ ((!decide (doE (Bk.mk x.snd.fst.mo x.snd.fst.wa x.snd.fst.no x.snd.fst.he x.snd.fst.ca x.snd.fst.bg) (mv.getD (↑x.fst : Int).toNat ((0 : Int), (0 : Int), (0 : Int), (0 : Int), ())) = (mvX x.snd.snd (mv.getD (↑x.fst : Int).toNat ((0 : Int), (0 : Int), (0 : Int), (0 : Int), ()))).snd)) = true → True ∧ (SV.und = SV.und ∧ SV.und = SV.und ∧ True) ∧ k [Dat.mk Ty.bool false]) ∧ ((!decide (doE (Bk.mk x.snd.fst.mo x.snd.fst.wa x.snd.fst.no x.snd.fst.he x.snd.fst.ca x.snd.fst.bg) (mv.getD (↑x.fst : Int).toNat ((0 : Int), (0 : Int), (0 : Int), (0 : Int), ())) = (mvX x.snd.snd (mv.getD (↑x.fst : Int).toNat ((0 : Int), (0 : Int), (0 : Int), (0 : Int), ()))).snd)) = false → True ∧ (stepB (Bk.mk x.snd.fst.mo x.snd.fst.wa x.snd.fst.no x.snd.fst.he x.snd.fst.ca x.snd.fst.bg) (mv.getD (↑x.fst : Int).toNat ((0 : Int), (0 : Int), (0 : Int), (0 : Int), ()))).mo.length ≤ (5 : Nat) ∧ ((stepB (Bk.mk x.snd.fst.mo x.snd.fst.wa x.snd.fst.no x.snd.fst.he x.snd.fst.ca x.snd.fst.bg) (mv.getD (↑x.fst : Int).toNat ((0 : Int), (0 : Int), (0 : Int), (0 : Int), ()))).mo.length ≤ (1000000 : Nat) ∧ List.length (mvX x.snd.snd (mv.getD (↑x.fst : Int).toNat ((0 : Int), (0 : Int), (0 : Int), (0 : Int), ()))).fst.fst ≤ (1000000 : Nat)) ∧ (SV.pv ((I).sl.pr ((I).sl.pr ((I).sl.sl.pr (Ty.bool.sl.pr ((I).sl.pr (Ty.bool.pr Ty.un)))))) (0 : Nat) ([] ++ [(0 : Nat)]) = SV.pv ((I).sl.pr ((I).sl.pr ((I).sl.sl.pr (Ty.bool.sl.pr ((I).sl.pr (Ty.bool.pr Ty.un)))))) (0 : Nat) ([] ++ [(0 : Nat)]) ∧ (mvX x.snd.snd (mv.getD (↑x.fst : Int).toNat ((0 : Int), (0 : Int), (0 : Int), (0 : Int), ()))).fst.fst = (mvX x.snd.snd (mv.getD (↑x.fst : Int).toNat ((0 : Int), (0 : Int), (0 : Int), (0 : Int), ()))).fst.fst ∧ True) ∧ ((!decide ((stepB (Bk.mk x.snd.fst.mo x.snd.fst.wa x.snd.fst.no x.snd.fst.he x.snd.fst.ca x.snd.fst.bg) (mv.getD (↑x.fst : Int).toNat ((0 : Int), (0 : Int), (0 : Int), (0 : Int), ()))).mo = (mvX x.snd.snd (mv.getD (↑x.fst : Int).toNat ((0 : Int), (0 : Int), (0 : Int), (0 : Int), ()))).fst.fst)) = true → k [Dat.mk Ty.bool false]) ∧ ((!decide ((stepB (Bk.mk x.snd.fst.mo x.snd.fst.wa x.snd.fst.no x.snd.fst.he x.snd.fst.ca x.snd.fst.bg) (mv.getD (↑x.fst : Int).toNat ((0 : Int), (0 : Int), (0 : Int), (0 : Int), ()))).mo = (mvX x.snd.snd (mv.getD (↑x.fst : Int).toNat ((0 : Int), (0 : Int), (0 : Int), (0 : Int), ()))).fst.fst)) = false → ∃ (x_1 : Bk × Xb), RB mo.length x_1.fst x_1.snd ∧ (mo = mo ∧ mv = mv ∧ ([] : List Nat) = [] ∧ True ∧ (↑mo.length : Int) = (↑mo.length : Int) ∧ (↑x.fst : Int) = (↑x.fst : Int) ∧ True) ∧ (((58 : Nat) = (58 : Nat) ∧ (mvX x.snd.snd (mv.getD (↑x.fst : Int).toNat ((0 : Int), (0 : Int), (0 : Int), (0 : Int), ()))).fst = x_1.snd) ∧ (True ∧ True ∧ True ∧ True ∧ True ∧ (stepB (Bk.mk x.snd.fst.mo x.snd.fst.wa x.snd.fst.no x.snd.fst.he x.snd.fst.ca x.snd.fst.bg) (mv.getD (↑x.fst : Int).toNat ((0 : Int), (0 : Int), (0 : Int), (0 : Int), ()))).bg = x_1.fst.bg ∧ True) ∧ ((3 : Nat) = (3 : Nat) ∧ (stepB (Bk.mk x.snd.fst.mo x.snd.fst.wa x.snd.fst.no x.snd.fst.he x.snd.fst.ca x.snd.fst.bg) (mv.getD (↑x.fst : Int).toNat ((0 : Int), (0 : Int), (0 : Int), (0 : Int), ()))).mo = x_1.fst.mo) ∧ (stepB (Bk.mk x.snd.fst.mo x.snd.fst.wa x.snd.fst.no x.snd.fst.he x.snd.fst.ca x.snd.fst.bg) (mv.getD (↑x.fst : Int).toNat ((0 : Int), (0 : Int), (0 : Int), (0 : Int), ()))).wa = x_1.fst.wa ∧ ((3 : Nat) = (3 : Nat) ∧ (stepB (Bk.mk x.snd.fst.mo x.snd.fst.wa x.snd.fst.no x.snd.fst.he x.snd.fst.ca x.snd.fst.bg) (mv.getD (↑x.fst : Int).toNat ((0 : Int), (0 : Int), (0 : Int), (0 : Int), ()))).no = x_1.fst.no) ∧ (stepB (Bk.mk x.snd.fst.mo x.snd.fst.wa x.snd.fst.no x.snd.fst.he x.snd.fst.ca x.snd.fst.bg) (mv.getD (↑x.fst : Int).toNat ((0 : Int), (0 : Int), (0 : Int), (0 : Int), ()))).he = x_1.fst.he ∧ (stepB (Bk.mk x.snd.fst.mo x.snd.fst.wa x.snd.fst.no x.snd.fst.he x.snd.fst.ca x.snd.fst.bg) (mv.getD (↑x.fst : Int).toNat ((0 : Int), (0 : Int), (0 : Int), (0 : Int), ()))).ca = x_1.fst.ca ∧ True) ∧ hdE = hdE ∧ True))) ∧ ∀ (x_1 : Bk × Xb), RB mo.length x_1.fst x_1.snd → BkS (Bk.mk x_1.fst.mo x_1.fst.wa x_1.fst.no x_1.fst.he x_1.fst.ca x_1.fst.bg) ∧ (allF (Bk.mk x_1.fst.mo x_1.fst.wa x_1.fst.no x_1.fst.he x_1.fst.ca x_1.fst.bg) = false → (XbOk x_1.snd ∧ ((!false == allXq x_1.snd) = true → k [Dat.mk Ty.bool false]) ∧ ((!false == allXq x_1.snd) = false → ((!false) = true → ((!decide ((0 : Int) = (0 : Int))) = true → k [Dat.mk Ty.bool false]) ∧ ((!decide ((0 : Int) = (0 : Int))) = false → ((!decide ((0 : Int) = (0 : Int))) = true → k [Dat.mk Ty.bool false]) ∧ ((!decide ((0 : Int) = (0 : Int))) = false → (false = true → (([] : List Int).length ≤ (1000000 : Nat) ∧ List.length x_1.snd.snd.fst ≤ (1000000 : Nat)) ∧ ((!decide ([] = x_1.snd.snd.fst)) = true → k [Dat.mk Ty.bool false]) ∧ ((!decide ([] = x_1.snd.snd.fst)) = false → ((!decide ((0 : Int) = (↑mo.length : Int))) = true → k [Dat.mk Ty.bool false]) ∧ ((!decide ((0 : Int) = (↑mo.length : Int))) = false → ∃ (x_2 : Nat), True ∧ (mo = mo ∧ mv = mv ∧ ([] : List Nat) = [] ∧ True ∧ (↑mo.length : Int) = (↑mo.length : Int) ∧ (↑x.fst : Int) = (↑x.fst : Int) ∧ nilL2 = [] ∧ false = false ∧ True) ∧ (((58 : Nat) = (58 : Nat) ∧ x_1.snd = x_1.snd) ∧ (True ∧ True ∧ True ∧ True ∧ True ∧ x_1.fst.bg = x_1.fst.bg ∧ True) ∧ ((3 : Nat) = (3 : Nat) ∧ x_1.fst.mo = x_1.fst.mo) ∧ x_1.fst.wa = x_1.fst.wa ∧ ((3 : Nat) = (3 : Nat) ∧ x_1.fst.no = x_1.fst.no) ∧ x_1.fst.he = x_1.fst.he ∧ x_1.fst.ca = x_1.fst.ca ∧ True) ∧ hdE = hdE ∧ True))) ∧ (false = false → ∃ (x_2 : Nat), True ∧ (mo = mo ∧ mv = mv ∧ ([] : List Nat) = [] ∧ True ∧ (↑mo.length : Int) = (↑mo.length : Int) ∧ (↑x.fst : Int) = (↑x.fst : Int) ∧ nilL2 = [] ∧ false = false ∧ True) ∧ (((58 : Nat) = (58 : Nat) ∧ x_1.snd = x_1.snd) ∧ (True ∧ True ∧ True ∧ True ∧ True ∧ x_1.fst.bg = x_1.fst.bg ∧ True) ∧ ((3 : Nat) = (3 : Nat) ∧ x_1.fst.mo = x_1.fst.mo) ∧ x_1.fst.wa = x_1.fst.wa ∧ ((3 : Nat) = (3 : Nat) ∧ x_1.fst.no = x_1.fst.no) ∧ x_1.fst.he = x_1.fst.he ∧ x_1.fst.ca = x_1.fst.ca ∧ True) ∧ hdE = hdE ∧ True)))) ∧ ((!false) = false → (false = true → (([] : List Int).length ≤ (1000000 : Nat) ∧ List.length x_1.snd.snd.fst ≤ (1000000 : Nat)) ∧ ((!decide ([] = x_1.snd.snd.fst)) = true → k [Dat.mk Ty.bool false]) ∧ ((!decide ([] = x_1.snd.snd.fst)) = false → ((!decide ((0 : Int) = (↑mo.length : Int))) = true → k [Dat.mk Ty.bool false]) ∧ ((!decide ((0 : Int) = (↑mo.length : Int))) = false → ∃ (x_2 : Nat), True ∧ (mo = mo ∧ mv = mv ∧ ([] : List Nat) = [] ∧ True ∧ (↑mo.length : Int) = (↑mo.length : Int) ∧ (↑x.fst : Int) = (↑x.fst : Int) ∧ nilL2 = [] ∧ false = false ∧ True) ∧ (((58 : Nat) = (58 : Nat) ∧ x_1.snd = x_1.snd) ∧ (True ∧ True ∧ True ∧ True ∧ True ∧ x_1.fst.bg = x_1.fst.bg ∧ True) ∧ ((3 : Nat) = (3 : Nat) ∧ x_1.fst.mo = x_1.fst.mo) ∧ x_1.fst.wa = x_1.fst.wa ∧ ((3 : Nat) = (3 : Nat) ∧ x_1.fst.no = x_1.fst.no) ∧ x_1.fst.he = x_1.fst.he ∧ x_1.fst.ca = x_1.fst.ca ∧ True) ∧ hdE = hdE ∧ True))) ∧ (false = false → ∃ (x_2 : Nat), True ∧ (mo = mo ∧ mv = mv ∧ ([] : List Nat) = [] ∧ True ∧ (↑mo.length : Int) = (↑mo.length : Int) ∧ (↑x.fst : Int) = (↑x.fst : Int) ∧ nilL2 = [] ∧ false = false ∧ True) ∧ (((58 : Nat) = (58 : Nat) ∧ x_1.snd = x_1.snd) ∧ (True ∧ True ∧ True ∧ True ∧ True ∧ x_1.fst.bg = x_1.fst.bg ∧ True) ∧ ((3 : Nat) = (3 : Nat) ∧ x_1.fst.mo = x_1.fst.mo) ∧ x_1.fst.wa = x_1.fst.wa ∧ ((3 : Nat) = (3 : Nat) ∧ x_1.fst.no = x_1.fst.no) ∧ x_1.fst.he = x_1.fst.he ∧ x_1.fst.ca = x_1.fst.ca ∧ True) ∧ hdE = hdE ∧ True)))) ∧ ∀ (x_2 : Nat), True → (∃ (x_3 : Nat), (x_3 ≤ mo.length ∧ True) ∧ (mo = mo ∧ mv = mv ∧ ([] : List Nat) = [] ∧ True ∧ (↑mo.length : Int) = (↑mo.length : Int) ∧ (↑x.fst : Int) = (↑x.fst : Int) ∧ nilL2 = nilL2 ∧ false = false ∧ (0 : Int) = (↑x_3 : Int) ∧ True) ∧ (((58 : Nat) = (58 : Nat) ∧ x_1.snd = x_1.snd) ∧ (True ∧ True ∧ True ∧ True ∧ True ∧ x_1.fst.bg = x_1.fst.bg ∧ True) ∧ ((3 : Nat) = (3 : Nat) ∧ x_1.fst.mo = x_1.fst.mo) ∧ x_1.fst.wa = x_1.fst.wa ∧ ((3 : Nat) = (3 : Nat) ∧ x_1.fst.no = x_1.fst.no) ∧ x_1.fst.he = x_1.fst.he ∧ x_1.fst.ca = x_1.fst.ca ∧ True) ∧ hdE = hdE ∧ True) ∧ ∀ (x_3 : Nat), x_3 ≤ mo.length ∧ True → (decide ((↑x_3 : Int) < (↑mo.length : Int)) = true → (if (13 : Nat) < (12 : Nat) then (↑x_3 : Int).toNat else (0 : Nat)) < (x_1.fst.wa).length ∧ ((false = true → (0 : Int) ≤ (↑x_3 : Int) ∧ (↑x_3 : Int) < (↑(List.length nilL2) : Int) ∧ inK IntKind.i64 ((↑x_3 : Int) * (↑mo.length : Int)) ∧ inK IntKind.i64 ((↑x_3 : Int) * (↑mo.length : Int)) ∧ inK IntKind.i64 ((↑x_3 : Int) * (↑mo.length : Int) + (↑mo.length : Int)) ∧ (0 : Int) ≤ (↑x_3 : Int) * (↑mo.length : Int) ∧ (↑x_3 : Int) * (↑mo.length : Int) ≤ (↑x_3 : Int) * (↑mo.length : Int) + (↑mo.length : Int) ∧ (↑x_3 : Int) * (↑mo.length : Int) + (↑mo.length : Int) ≤ (↑(List.length x_1.snd.snd.snd.snd.snd.fst) : Int) ∧ ((List.getD nilL2 (↑x_3 : Int).toNat ([] : List Int)).length ≤ (1000000 : Nat) ∧ (List.drop ((↑x_3 : Int) * (↑mo.length : Int)).toNat (List.take ((↑x_3 : Int) * (↑mo.length : Int) + (↑mo.length : Int)).toNat x_1.snd.snd.snd.snd.snd.fst)).length ≤ (1000000 : Nat)) ∧ True) ∧ (false = false → True)) ∧ ((false && !decide (List.getD nilL2 (↑x_3 : Int).toNat ([] : List Int) = List.drop ((↑x_3 : Int) * (↑mo.length : Int)).toNat (List.take ((↑x_3 : Int) * (↑mo.length : Int) + (↑mo.length : Int)).toNat x_1.snd.snd.snd.snd.snd.fst))) = true → k [Dat.mk Ty.bool false]) ∧ ((false && !decide (List.getD nilL2 (↑x_3 : Int).toNat ([] : List Int) = List.drop ((↑x_3 : Int) * (↑mo.length : Int)).toNat (List.take ((↑x_3 : Int) * (↑mo.length : Int) + (↑mo.length : Int)).toNat x_1.snd.snd.snd.snd.snd.fst))) = false → (∃ (x_4 : Nat), (x_4 ≤ mo.length ∧ True) ∧ (mo = mo ∧ mv = mv ∧ ([] : List Nat) = [] ∧ True ∧ (↑mo.length : Int) = (↑mo.length : Int) ∧ (↑x.fst : Int) = (↑x.fst : Int) ∧ nilL2 = nilL2 ∧ false = false ∧ (↑x_3 : Int) = (↑x_3 : Int) ∧ (0 : Int) = (↑x_4 : Int) ∧ True) ∧ (((58 : Nat) = (58 : Nat) ∧ x_1.snd = x_1.snd) ∧ (True ∧ True ∧ True ∧ True ∧ True ∧ x_1.fst.bg = x_1.fst.bg ∧ True) ∧ ((3 : Nat) = (3 : Nat) ∧ x_1.fst.mo = x_1.fst.mo) ∧ (x_1.fst.wa).set (0 : Nat) (((x_1.fst.wa).getD (if (13 : Nat) < (12 : Nat) then (↑x_3 : Int).toNat else (0 : Nat)) [])) = (x_1.fst.wa).set (0 : Nat) (((x_1.fst.wa).getD (if (13 : Nat) < (12 : Nat) then (↑x_3 : Int).toNat else (0 : Nat)) [])) ∧ ((3 : Nat) = (3 : Nat) ∧ x_1.fst.no = x_1.fst.no) ∧ x_1.fst.he = x_1.fst.he ∧ x_1.fst.ca = x_1.fst.ca ∧ True) ∧ hdE = hdE ∧ True) ∧ ∀ (x_4 : Nat), x_4 ≤ mo.length ∧ True → (decide ((↑x_4 : Int) < (↑mo.length : Int)) = true → inK IntKind.i64 ((↑x_3 : Int) * (↑mo.length : Int)) ∧ inK IntKind.i64 ((↑x_3 : Int) * (↑mo.length : Int) + (↑x_4 : Int)) ∧ (0 : Int) ≤ (↑x_3 : Int) * (↑mo.length : Int) + (↑x_4 : Int) ∧ (↑x_3 : Int) * (↑mo.length : Int) + (↑x_4 : Int) < (↑(List.length x_1.snd.snd.snd.fst) : Int) ∧ True ∧ BkS (Bk.mk x_1.fst.mo ((x_1.fst.wa).set (0 : Nat) (((x_1.fst.wa).getD (if (13 : Nat) < (12 : Nat) then (↑x_3 : Int).toNat else (0 : Nat)) []))) x_1.fst.no x_1.fst.he x_1.fst.ca x_1.fst.bg) ∧ ((wayF (Bk.mk x_1.fst.mo ((x_1.fst.wa).set (0 : Nat) (((x_1.fst.wa).getD (if (13 : Nat) < (12 : Nat) then (↑x_3 : Int).toNat else (0 : Nat)) []))) x_1.fst.no x_1.fst.he x_1.fst.ca x_1.fst.bg) (↑x_3 : Int) (↑x_4 : Int)).length ≤ (1000000 : Nat) ∧ (List.getD x_1.snd.snd.snd.fst ((↑x_3 : Int) * (↑mo.length : Int) + (↑x_4 : Int)).toNat ([] : List Int)).length ≤ (1000000 : Nat)) ∧ (SV.pv ((I).sl.pr ((I).sl.pr ((I).sl.sl.pr (Ty.bool.sl.pr ((I).sl.pr (Ty.bool.pr Ty.un)))))) (0 : Nat) ([] ++ [(2 : Nat)]) = SV.pv ((I).sl.pr ((I).sl.pr ((I).sl.sl.pr (Ty.bool.sl.pr ((I).sl.pr (Ty.bool.pr Ty.un)))))) (0 : Nat) ([] ++ [(2 : Nat)]) ∧ x_1.snd.snd.snd.fst = x_1.snd.snd.snd.fst ∧ (inK IntKind.i64 ((↑x_3 : Int) * (↑mo.length : Int)) ∧ (↑x_3 : Int) * (↑mo.length : Int) = (↑x_3 : Int) * (↑mo.length : Int)) ∧ (inK IntKind.i64 ((↑x_3 : Int) * (↑mo.length : Int) + (↑x_4 : Int)) ∧ (↑x_3 : Int) * (↑mo.length : Int) + (↑x_4 : Int) = (↑x_3 : Int) * (↑mo.length : Int) + (↑x_4 : Int)) ∧ ((0 : Int) ≤ (↑x_3 : Int) * (↑mo.length : Int) + (↑x_4 : Int) ∧ (↑x_3 : Int) * (↑mo.length : Int) + (↑x_4 : Int) < (↑(List.length x_1.snd.snd.snd.fst) : Int) ∧ SV.ra (I).sl (List.getD x_1.snd.snd.snd.fst ((↑x_3 : Int) * (↑mo.length : Int) + (↑x_4 : Int)).toNat ([] : List Int)) = SV.ra (I).sl (List.getD x_1.snd.snd.snd.fst ((↑x_3 : Int) * (↑mo.length : Int) + (↑x_4 : Int)).toNat ([] : List Int))) ∧ List.getD x_1.snd.snd.snd.fst ((↑x_3 : Int) * (↑mo.length : Int) + (↑x_4 : Int)).toNat ([] : List Int) = List.getD x_1.snd.snd.snd.fst ((↑x_3 : Int) * (↑mo.length : Int) + (↑x_4 : Int)).toNat ([] : List Int) ∧ True) ∧ ((!decide (wayF (Bk.mk x_1.fst.mo ((x_1.fst.wa).set (0 : Nat) (((x_1.fst.wa).getD (if (13 : Nat) < (12 : Nat) then (↑x_3 : Int).toNat else (0 : Nat)) []))) x_1.fst.no x_1.fst.he x_1.fst.ca x_1.fst.bg) (↑x_3 : Int) (↑x_4 : Int) = List.getD x_1.snd.snd.snd.fst ((↑x_3 : Int) * (↑mo.length : Int) + (↑x_4 : Int)).toNat ([] : List Int))) = true → k [Dat.mk Ty.bool false]) ∧ ((!decide (wayF (Bk.mk x_1.fst.mo ((x_1.fst.wa).set (0 : Nat) (((x_1.fst.wa).getD (if (13 : Nat) < (12 : Nat) then (↑x_3 : Int).toNat else (0 : Nat)) []))) x_1.fst.no x_1.fst.he x_1.fst.ca x_1.fst.bg) (↑x_3 : Int) (↑x_4 : Int) = List.getD x_1.snd.snd.snd.fst ((↑x_3 : Int) * (↑mo.length : Int) + (↑x_4 : Int)).toNat ([] : List Int))) = false → inK IntKind.i64 ((↑x_4 : Int) + (1 : Int)) ∧ ∃ (x_5 : Nat), (x_5 ≤ mo.length ∧ True) ∧ mo.length - x_5 < mo.length - x_4 ∧ (mo = mo ∧ mv = mv ∧ ([] : List Nat) = [] ∧ True ∧ (↑mo.length : Int) = (↑mo.length : Int) ∧ (↑x.fst : Int) = (↑x.fst : Int) ∧ nilL2 = nilL2 ∧ false = false ∧ (↑x_3 : Int) = (↑x_3 : Int) ∧ (↑x_4 : Int) + (1 : Int) = (↑x_5 : Int) ∧ True) ∧ (((58 : Nat) = (58 : Nat) ∧ x_1.snd = x_1.snd) ∧ (True ∧ True ∧ True ∧ True ∧ True ∧ x_1.fst.bg = x_1.fst.bg ∧ True) ∧ ((3 : Nat) = (3 : Nat) ∧ x_1.fst.mo = x_1.fst.mo) ∧ (x_1.fst.wa).set (0 : Nat) (((x_1.fst.wa).getD (if (13 : Nat) < (12 : Nat) then (↑x_3 : Int).toNat else (0 : Nat)) [])) = (x_1.fst.wa).set (0 : Nat) (((x_1.fst.wa).getD (if (13 : Nat) < (12 : Nat) then (↑x_3 : Int).toNat else (0 : Nat)) [])) ∧ ((3 : Nat) = (3 : Nat) ∧ x_1.fst.no = x_1.fst.no) ∧ x_1.fst.he = x_1.fst.he ∧ x_1.fst.ca = x_1.fst.ca ∧ True) ∧ hdE = hdE ∧ True)) ∧ (decide ((↑x_4 : Int) < (↑mo.length : Int)) = false → inK IntKind.i64 ((↑x_3 : Int) + (1 : Int)) ∧ ∃ (x_5 : Nat), (x_5 ≤ mo.length ∧ True) ∧ mo.length - x_5 < mo.length - x_3 ∧ (mo = mo ∧ mv = mv ∧ ([] : List Nat) = [] ∧ True ∧ (↑mo.length : Int) = (↑mo.length : Int) ∧ (↑x.fst : Int) = (↑x.fst : Int) ∧ nilL2 = nilL2 ∧ false = false ∧ (↑x_3 : Int) + (1 : Int) = (↑x_5 : Int) ∧ True) ∧ (((58 : Nat) = (58 : Nat) ∧ x_1.snd = x_1.snd) ∧ (True ∧ True ∧ True ∧ True ∧ True ∧ x_1.fst.bg = x_1.fst.bg ∧ True) ∧ ((3 : Nat) = (3 : Nat) ∧ x_1.fst.mo = x_1.fst.mo) ∧ (x_1.fst.wa).set (0 : Nat) (((x_1.fst.wa).getD (if (13 : Nat) < (12 : Nat) then (↑x_3 : Int).toNat else (0 : Nat)) [])) = x_1.fst.wa ∧ ((3 : Nat) = (3 : Nat) ∧ x_1.fst.no = x_1.fst.no) ∧ x_1.fst.he = x_1.fst.he ∧ x_1.fst.ca = x_1.fst.ca ∧ True) ∧ hdE = hdE ∧ True))) ∧ (decide ((↑x_3 : Int) < (↑mo.length : Int)) = false → inK IntKind.i64 ((↑x.fst : Int) + (1 : Int)) ∧ ∃ (x_4 : Nat × Bk × Xb), ((x_4.fst ≤ mv.length ∧ x_4.fst ≤ (100 : Nat)) ∧ RB mo.length x_4.snd.fst x_4.snd.snd) ∧ mv.length - x_4.fst < mv.length - x.fst ∧ (mo = mo ∧ mv = mv ∧ ([] : List Nat) = [] ∧ True ∧ (↑mo.length : Int) = (↑mo.length : Int) ∧ (↑x.fst : Int) + (1 : Int) = (↑x_4.fst : Int) ∧ True) ∧ (((58 : Nat) = (58 : Nat) ∧ x_1.snd = x_4.snd.snd) ∧ (True ∧ True ∧ True ∧ True ∧ True ∧ x_1.fst.bg = x_4.snd.fst.bg ∧ True) ∧ ((3 : Nat) = (3 : Nat) ∧ x_1.fst.mo = x_4.snd.fst.mo) ∧ x_1.fst.wa = x_4.snd.fst.wa ∧ ((3 : Nat) = (3 : Nat) ∧ x_1.fst.no = x_4.snd.fst.no) ∧ x_1.fst.he = x_4.snd.fst.he ∧ x_1.fst.ca = x_4.snd.fst.ca ∧ True) ∧ hdE = hdE ∧ True)) ∧ (allF (Bk.mk x_1.fst.mo x_1.fst.wa x_1.fst.no x_1.fst.he x_1.fst.ca x_1.fst.bg) = true → (XbOk x_1.snd ∧ ((!true == allXq x_1.snd) = true → k [Dat.mk Ty.bool false]) ∧ ((!true == allXq x_1.snd) = false → ((!true) = true → ((!decide ((↑x_1.fst.no.length : Int) = (0 : Int))) = true → k [Dat.mk Ty.bool false]) ∧ ((!decide ((↑x_1.fst.no.length : Int) = (0 : Int))) = false → ((!decide ((↑(List.length x_1.fst.ca) : Int) = (0 : Int))) = true → k [Dat.mk Ty.bool false]) ∧ ((!decide ((↑(List.length x_1.fst.ca) : Int) = (0 : Int))) = false → (true = true → (x_1.fst.no.length ≤ (1000000 : Nat) ∧ List.length x_1.snd.snd.fst ≤ (1000000 : Nat)) ∧ ((!decide (x_1.fst.no = x_1.snd.snd.fst)) = true → k [Dat.mk Ty.bool false]) ∧ ((!decide (x_1.fst.no = x_1.snd.snd.fst)) = false → ((!decide ((↑(List.length x_1.fst.ca) : Int) = (↑mo.length : Int))) = true → k [Dat.mk Ty.bool false]) ∧ ((!decide ((↑(List.length x_1.fst.ca) : Int) = (↑mo.length : Int))) = false → ∃ (x_2 : Nat), True ∧ (mo = mo ∧ mv = mv ∧ ([] : List Nat) = [] ∧ True ∧ (↑mo.length : Int) = (↑mo.length : Int) ∧ (↑x.fst : Int) = (↑x.fst : Int) ∧ True ∧ True ∧ true = true ∧ True) ∧ (((58 : Nat) = (58 : Nat) ∧ x_1.snd = x_1.snd) ∧ (True ∧ True ∧ True ∧ True ∧ True ∧ x_1.fst.bg = x_1.fst.bg ∧ True) ∧ ((3 : Nat) = (3 : Nat) ∧ x_1.fst.no = x_1.fst.no) ∧ x_1.fst.ca = x_1.fst.ca ∧ ((3 : Nat) = (3 : Nat) ∧ x_1.fst.mo = x_1.fst.mo) ∧ x_1.fst.wa = x_1.fst.wa ∧ ((3 : Nat) = (3 : Nat) ∧ x_1.fst.no = x_1.fst.no) ∧ x_1.fst.he = x_1.fst.he ∧ x_1.fst.ca = x_1.fst.ca ∧ True) ∧ hdE = hdE ∧ True))) ∧ (true = false → ∃ (x_2 : Nat), True ∧ (mo = mo ∧ mv = mv ∧ ([] : List Nat) = [] ∧ True ∧ (↑mo.length : Int) = (↑mo.length : Int) ∧ (↑x.fst : Int) = (↑x.fst : Int) ∧ True ∧ True ∧ true = true ∧ True) ∧ (((58 : Nat) = (58 : Nat) ∧ x_1.snd = x_1.snd) ∧ (True ∧ True ∧ True ∧ True ∧ True ∧ x_1.fst.bg = x_1.fst.bg ∧ True) ∧ ((3 : Nat) = (3 : Nat) ∧ x_1.fst.no = x_1.fst.no) ∧ x_1.fst.ca = x_1.fst.ca ∧ ((3 : Nat) = (3 : Nat) ∧ x_1.fst.mo = x_1.fst.mo) ∧ x_1.fst.wa = x_1.fst.wa ∧ ((3 : Nat) = (3 : Nat) ∧ x_1.fst.no = x_1.fst.no) ∧ x_1.fst.he = x_1.fst.he ∧ x_1.fst.ca = x_1.fst.ca ∧ True) ∧ hdE = hdE ∧ True)))) ∧ ((!true) = false → (true = true → (x_1.fst.no.length ≤ (1000000 : Nat) ∧ List.length x_1.snd.snd.fst ≤ (1000000 : Nat)) ∧ ((!decide (x_1.fst.no = x_1.snd.snd.fst)) = true → k [Dat.mk Ty.bool false]) ∧ ((!decide (x_1.fst.no = x_1.snd.snd.fst)) = false → ((!decide ((↑(List.length x_1.fst.ca) : Int) = (↑mo.length : Int))) = true → k [Dat.mk Ty.bool false]) ∧ ((!decide ((↑(List.length x_1.fst.ca) : Int) = (↑mo.length : Int))) = false → ∃ (x_2 : Nat), True ∧ (mo = mo ∧ mv = mv ∧ ([] : List Nat) = [] ∧ True ∧ (↑mo.length : Int) = (↑mo.length : Int) ∧ (↑x.fst : Int) = (↑x.fst : Int) ∧ True ∧ True ∧ true = true ∧ True) ∧ (((58 : Nat) = (58 : Nat) ∧ x_1.snd = x_1.snd) ∧ (True ∧ True ∧ True ∧ True ∧ True ∧ x_1.fst.bg = x_1.fst.bg ∧ True) ∧ ((3 : Nat) = (3 : Nat) ∧ x_1.fst.no = x_1.fst.no) ∧ x_1.fst.ca = x_1.fst.ca ∧ ((3 : Nat) = (3 : Nat) ∧ x_1.fst.mo = x_1.fst.mo) ∧ x_1.fst.wa = x_1.fst.wa ∧ ((3 : Nat) = (3 : Nat) ∧ x_1.fst.no = x_1.fst.no) ∧ x_1.fst.he = x_1.fst.he ∧ x_1.fst.ca = x_1.fst.ca ∧ True) ∧ hdE = hdE ∧ True))) ∧ (true = false → ∃ (x_2 : Nat), True ∧ (mo = mo ∧ mv = mv ∧ ([] : List Nat) = [] ∧ True ∧ (↑mo.length : Int) = (↑mo.length : Int) ∧ (↑x.fst : Int) = (↑x.fst : Int) ∧ True ∧ True ∧ true = true ∧ True) ∧ (((58 : Nat) = (58 : Nat) ∧ x_1.snd = x_1.snd) ∧ (True ∧ True ∧ True ∧ True ∧ True ∧ x_1.fst.bg = x_1.fst.bg ∧ True) ∧ ((3 : Nat) = (3 : Nat) ∧ x_1.fst.no = x_1.fst.no) ∧ x_1.fst.ca = x_1.fst.ca ∧ ((3 : Nat) = (3 : Nat) ∧ x_1.fst.mo = x_1.fst.mo) ∧ x_1.fst.wa = x_1.fst.wa ∧ ((3 : Nat) = (3 : Nat) ∧ x_1.fst.no = x_1.fst.no) ∧ x_1.fst.he = x_1.fst.he ∧ x_1.fst.ca = x_1.fst.ca ∧ True) ∧ hdE = hdE ∧ True)))) ∧ ∀ (x_2 : Nat), True → (∃ (x_3 : Nat), (x_3 ≤ mo.length ∧ True) ∧ (mo = mo ∧ mv = mv ∧ ([] : List Nat) = [] ∧ True ∧ (↑mo.length : Int) = (↑mo.length : Int) ∧ (↑x.fst : Int) = (↑x.fst : Int) ∧ True ∧ True ∧ true = true ∧ (0 : Int) = (↑x_3 : Int) ∧ True) ∧ (((58 : Nat) = (58 : Nat) ∧ x_1.snd = x_1.snd) ∧ (True ∧ True ∧ True ∧ True ∧ True ∧ x_1.fst.bg = x_1.fst.bg ∧ True) ∧ ((3 : Nat) = (3 : Nat) ∧ x_1.fst.no = x_1.fst.no) ∧ x_1.fst.ca = x_1.fst.ca ∧ ((3 : Nat) = (3 : Nat) ∧ x_1.fst.mo = x_1.fst.mo) ∧ x_1.fst.wa = x_1.fst.wa ∧ ((3 : Nat) = (3 : Nat) ∧ x_1.fst.no = x_1.fst.no) ∧ x_1.fst.he = x_1.fst.he ∧ x_1.fst.ca = x_1.fst.ca ∧ True) ∧ hdE = hdE ∧ True) ∧ ∀ (x_3 : Nat), x_3 ≤ mo.length ∧ True → (decide ((↑x_3 : Int) < (↑mo.length : Int)) = true → (if (13 : Nat) < (14 : Nat) then (↑x_3 : Int).toNat else (0 : Nat)) < (x_1.fst.ca).length ∧ ((true = true → (0 : Int) ≤ (↑x_3 : Int) ∧ (↑x_3 : Int) < (↑(List.length x_1.fst.ca) : Int) ∧ ((↑x_3 : Int).toNat = if (13 : Nat) < (14 : Nat) then (↑x_3 : Int).toNat else (0 : Nat)) ∧ inK IntKind.i64 ((↑x_3 : Int) * (↑mo.length : Int)) ∧ inK IntKind.i64 ((↑x_3 : Int) * (↑mo.length : Int)) ∧ inK IntKind.i64 ((↑x_3 : Int) * (↑mo.length : Int) + (↑mo.length : Int)) ∧ (0 : Int) ≤ (↑x_3 : Int) * (↑mo.length : Int) ∧ (↑x_3 : Int) * (↑mo.length : Int) ≤ (↑x_3 : Int) * (↑mo.length : Int) + (↑mo.length : Int) ∧ (↑x_3 : Int) * (↑mo.length : Int) + (↑mo.length : Int) ≤ (↑(List.length x_1.snd.snd.snd.snd.snd.fst) : Int) ∧ (((x_1.fst.ca).getD (if (13 : Nat) < (14 : Nat) then (↑x_3 : Int).toNat else (0 : Nat)) []).length ≤ (1000000 : Nat) ∧ (List.drop ((↑x_3 : Int) * (↑mo.length : Int)).toNat (List.take ((↑x_3 : Int) * (↑mo.length : Int) + (↑mo.length : Int)).toNat x_1.snd.snd.snd.snd.snd.fst)).length ≤ (1000000 : Nat)) ∧ True) ∧ (true = false → True)) ∧ ((true && !decide ((x_1.fst.ca).getD (if (13 : Nat) < (14 : Nat) then (↑x_3 : Int).toNat else (0 : Nat)) [] = List.drop ((↑x_3 : Int) * (↑mo.length : Int)).toNat (List.take ((↑x_3 : Int) * (↑mo.length : Int) + (↑mo.length : Int)).toNat x_1.snd.snd.snd.snd.snd.fst))) = true → k [Dat.mk Ty.bool false]) ∧ ((true && !decide ((x_1.fst.ca).getD (if (13 : Nat) < (14 : Nat) then (↑x_3 : Int).toNat else (0 : Nat)) [] = List.drop ((↑x_3 : Int) * (↑mo.length : Int)).toNat (List.take ((↑x_3 : Int) * (↑mo.length : Int) + (↑mo.length : Int)).toNat x_1.snd.snd.snd.snd.snd.fst))) = false → (∃ (x_4 : Nat), (x_4 ≤ mo.length ∧ True) ∧ (mo = mo ∧ mv = mv ∧ ([] : List Nat) = [] ∧ True ∧ (↑mo.length : Int) = (↑mo.length : Int) ∧ (↑x.fst : Int) = (↑x.fst : Int) ∧ True ∧ True ∧ true = true ∧ (↑x_3 : Int) = (↑x_3 : Int) ∧ (0 : Int) = (↑x_4 : Int) ∧ True) ∧ (((58 : Nat) = (58 : Nat) ∧ x_1.snd = x_1.snd) ∧ (True ∧ True ∧ True ∧ True ∧ True ∧ x_1.fst.bg = x_1.fst.bg ∧ True) ∧ ((3 : Nat) = (3 : Nat) ∧ x_1.fst.no = x_1.fst.no) ∧ (x_1.fst.ca).set (if (13 : Nat) < (14 : Nat) then (↑x_3 : Int).toNat else (0 : Nat)) ((x_1.fst.ca).getD (if (13 : Nat) < (14 : Nat) then (↑x_3 : Int).toNat else (0 : Nat)) []) = (x_1.fst.ca).set (if (13 : Nat) < (14 : Nat) then (↑x_3 : Int).toNat else (0 : Nat)) ((x_1.fst.ca).getD (if (13 : Nat) < (14 : Nat) then (↑x_3 : Int).toNat else (0 : Nat)) []) ∧ ((3 : Nat) = (3 : Nat) ∧ x_1.fst.mo = x_1.fst.mo) ∧ x_1.fst.wa = x_1.fst.wa ∧ ((3 : Nat) = (3 : Nat) ∧ x_1.fst.no = x_1.fst.no) ∧ x_1.fst.he = x_1.fst.he ∧ x_1.fst.ca = x_1.fst.ca ∧ True) ∧ hdE = hdE ∧ True) ∧ ∀ (x_4 : Nat), x_4 ≤ mo.length ∧ True → (decide ((↑x_4 : Int) < (↑mo.length : Int)) = true → inK IntKind.i64 ((↑x_3 : Int) * (↑mo.length : Int)) ∧ inK IntKind.i64 ((↑x_3 : Int) * (↑mo.length : Int) + (↑x_4 : Int)) ∧ (0 : Int) ≤ (↑x_3 : Int) * (↑mo.length : Int) + (↑x_4 : Int) ∧ (↑x_3 : Int) * (↑mo.length : Int) + (↑x_4 : Int) < (↑(List.length x_1.snd.snd.snd.fst) : Int) ∧ True ∧ BkS (Bk.mk x_1.fst.mo x_1.fst.wa x_1.fst.no x_1.fst.he x_1.fst.ca x_1.fst.bg) ∧ ((wayF (Bk.mk x_1.fst.mo x_1.fst.wa x_1.fst.no x_1.fst.he x_1.fst.ca x_1.fst.bg) (↑x_3 : Int) (↑x_4 : Int)).length ≤ (1000000 : Nat) ∧ (List.getD x_1.snd.snd.snd.fst ((↑x_3 : Int) * (↑mo.length : Int) + (↑x_4 : Int)).toNat ([] : List Int)).length ≤ (1000000 : Nat)) ∧ (SV.pv ((I).sl.pr ((I).sl.pr ((I).sl.sl.pr (Ty.bool.sl.pr ((I).sl.pr (Ty.bool.pr Ty.un)))))) (0 : Nat) ([] ++ [(2 : Nat)]) = SV.pv ((I).sl.pr ((I).sl.pr ((I).sl.sl.pr (Ty.bool.sl.pr ((I).sl.pr (Ty.bool.pr Ty.un)))))) (0 : Nat) ([] ++ [(2 : Nat)]) ∧ x_1.snd.snd.snd.fst = x_1.snd.snd.snd.fst ∧ (inK IntKind.i64 ((↑x_3 : Int) * (↑mo.length : Int)) ∧ (↑x_3 : Int) * (↑mo.length : Int) = (↑x_3 : Int) * (↑mo.length : Int)) ∧ (inK IntKind.i64 ((↑x_3 : Int) * (↑mo.length : Int) + (↑x_4 : Int)) ∧ (↑x_3 : Int) * (↑mo.length : Int) + (↑x_4 : Int) = (↑x_3 : Int) * (↑mo.length : Int) + (↑x_4 : Int)) ∧ ((0 : Int) ≤ (↑x_3 : Int) * (↑mo.length : Int) + (↑x_4 : Int) ∧ (↑x_3 : Int) * (↑mo.length : Int) + (↑x_4 : Int) < (↑(List.length x_1.snd.snd.snd.fst) : Int) ∧ SV.ra (I).sl (List.getD x_1.snd.snd.snd.fst ((↑x_3 : Int) * (↑mo.length : Int) + (↑x_4 : Int)).toNat ([] : List Int)) = SV.ra (I).sl (List.getD x_1.snd.snd.snd.fst ((↑x_3 : Int) * (↑mo.length : Int) + (↑x_4 : Int)).toNat ([] : List Int))) ∧ List.getD x_1.snd.snd.snd.fst ((↑x_3 : Int) * (↑mo.length : Int) + (↑x_4 : Int)).toNat ([] : List Int) = List.getD x_1.snd.snd.snd.fst ((↑x_3 : Int) * (↑mo.length : Int) + (↑x_4 : Int)).toNat ([] : List Int) ∧ True) ∧ ((!decide (wayF (Bk.mk x_1.fst.mo x_1.fst.wa x_1.fst.no x_1.fst.he x_1.fst.ca x_1.fst.bg) (↑x_3 : Int) (↑x_4 : Int) = List.getD x_1.snd.snd.snd.fst ((↑x_3 : Int) * (↑mo.length : Int) + (↑x_4 : Int)).toNat ([] : List Int))) = true → k [Dat.mk Ty.bool false]) ∧ ((!decide (wayF (Bk.mk x_1.fst.mo x_1.fst.wa x_1.fst.no x_1.fst.he x_1.fst.ca x_1.fst.bg) (↑x_3 : Int) (↑x_4 : Int) = List.getD x_1.snd.snd.snd.fst ((↑x_3 : Int) * (↑mo.length : Int) + (↑x_4 : Int)).toNat ([] : List Int))) = false → inK IntKind.i64 ((↑x_4 : Int) + (1 : Int)) ∧ ∃ (x_5 : Nat), (x_5 ≤ mo.length ∧ True) ∧ mo.length - x_5 < mo.length - x_4 ∧ (mo = mo ∧ mv = mv ∧ ([] : List Nat) = [] ∧ True ∧ (↑mo.length : Int) = (↑mo.length : Int) ∧ (↑x.fst : Int) = (↑x.fst : Int) ∧ True ∧ True ∧ true = true ∧ (↑x_3 : Int) = (↑x_3 : Int) ∧ (↑x_4 : Int) + (1 : Int) = (↑x_5 : Int) ∧ True) ∧ (((58 : Nat) = (58 : Nat) ∧ x_1.snd = x_1.snd) ∧ (True ∧ True ∧ True ∧ True ∧ True ∧ x_1.fst.bg = x_1.fst.bg ∧ True) ∧ ((3 : Nat) = (3 : Nat) ∧ x_1.fst.no = x_1.fst.no) ∧ (x_1.fst.ca).set (if (13 : Nat) < (14 : Nat) then (↑x_3 : Int).toNat else (0 : Nat)) ((x_1.fst.ca).getD (if (13 : Nat) < (14 : Nat) then (↑x_3 : Int).toNat else (0 : Nat)) []) = (x_1.fst.ca).set (if (13 : Nat) < (14 : Nat) then (↑x_3 : Int).toNat else (0 : Nat)) ((x_1.fst.ca).getD (if (13 : Nat) < (14 : Nat) then (↑x_3 : Int).toNat else (0 : Nat)) []) ∧ ((3 : Nat) = (3 : Nat) ∧ x_1.fst.mo = x_1.fst.mo) ∧ x_1.fst.wa = x_1.fst.wa ∧ ((3 : Nat) = (3 : Nat) ∧ x_1.fst.no = x_1.fst.no) ∧ x_1.fst.he = x_1.fst.he ∧ x_1.fst.ca = x_1.fst.ca ∧ True) ∧ hdE = hdE ∧ True)) ∧ (decide ((↑x_4 : Int) < (↑mo.length : Int)) = false → inK IntKind.i64 ((↑x_3 : Int) + (1 : Int)) ∧ ∃ (x_5 : Nat), (x_5 ≤ mo.length ∧ True) ∧ mo.length - x_5 < mo.length - x_3 ∧ (mo = mo ∧ mv = mv ∧ ([] : List Nat) = [] ∧ True ∧ (↑mo.length : Int) = (↑mo.length : Int) ∧ (↑x.fst : Int) = (↑x.fst : Int) ∧ True ∧ True ∧ true = true ∧ (↑x_3 : Int) + (1 : Int) = (↑x_5 : Int) ∧ True) ∧ (((58 : Nat) = (58 : Nat) ∧ x_1.snd = x_1.snd) ∧ (True ∧ True ∧ True ∧ True ∧ True ∧ x_1.fst.bg = x_1.fst.bg ∧ True) ∧ ((3 : Nat) = (3 : Nat) ∧ x_1.fst.no = x_1.fst.no) ∧ (x_1.fst.ca).set (if (13 : Nat) < (14 : Nat) then (↑x_3 : Int).toNat else (0 : Nat)) ((x_1.fst.ca).getD (if (13 : Nat) < (14 : Nat) then (↑x_3 : Int).toNat else (0 : Nat)) []) = x_1.fst.ca ∧ ((3 : Nat) = (3 : Nat) ∧ x_1.fst.mo = x_1.fst.mo) ∧ x_1.fst.wa = x_1.fst.wa ∧ ((3 : Nat) = (3 : Nat) ∧ x_1.fst.no = x_1.fst.no) ∧ x_1.fst.he = x_1.fst.he ∧ x_1.fst.ca = x_1.fst.ca ∧ True) ∧ hdE = hdE ∧ True))) ∧ (decide ((↑x_3 : Int) < (↑mo.length : Int)) = false → inK IntKind.i64 ((↑x.fst : Int) + (1 : Int)) ∧ ∃ (x_4 : Nat × Bk × Xb), ((x_4.fst ≤ mv.length ∧ x_4.fst ≤ (100 : Nat)) ∧ RB mo.length x_4.snd.fst x_4.snd.snd) ∧ mv.length - x_4.fst < mv.length - x.fst ∧ (mo = mo ∧ mv = mv ∧ ([] : List Nat) = [] ∧ True ∧ (↑mo.length : Int) = (↑mo.length : Int) ∧ (↑x.fst : Int) + (1 : Int) = (↑x_4.fst : Int) ∧ True) ∧ (((58 : Nat) = (58 : Nat) ∧ x_1.snd = x_4.snd.snd) ∧ (True ∧ True ∧ True ∧ True ∧ True ∧ x_1.fst.bg = x_4.snd.fst.bg ∧ True) ∧ ((3 : Nat) = (3 : Nat) ∧ x_1.fst.mo = x_4.snd.fst.mo) ∧ x_1.fst.wa = x_4.snd.fst.wa ∧ ((3 : Nat) = (3 : Nat) ∧ x_1.fst.no = x_4.snd.fst.no) ∧ x_1.fst.he = x_4.snd.fst.he ∧ x_1.fst.ca = x_4.snd.fst.ca ∧ True) ∧ hdE = hdE ∧ True))) ∧ (decide ((↑x.fst : Int) < (100 : Int)) = false → BkS (Bk.mk x.snd.fst.mo x.snd.fst.wa x.snd.fst.no x.snd.fst.he x.snd.fst.ca x.snd.fst.bg) ∧ (decide ((↑(wayF (Bk.mk x.snd.fst.mo x.snd.fst.wa x.snd.fst.no x.snd.fst.he x.snd.fst.ca x.snd.fst.bg) (-1 : Int) (0 : Int)).length : Int) = (0 : Int)) = true → BkS (Bk.mk x.snd.fst.mo x.snd.fst.wa x.snd.fst.no x.snd.fst.he x.snd.fst.ca x.snd.fst.bg) ∧ k [Dat.mk Ty.bool (decide ((↑(wayF (Bk.mk x.snd.fst.mo x.snd.fst.wa x.snd.fst.no x.snd.fst.he x.snd.fst.ca x.snd.fst.bg) (0 : Int) (↑mo.length : Int)).length : Int) = (0 : Int)))]) ∧ (decide ((↑(wayF (Bk.mk x.snd.fst.mo x.snd.fst.wa x.snd.fst.no x.snd.fst.he x.snd.fst.ca x.snd.fst.bg) (-1 : Int) (0 : Int)).length : Int) = (0 : Int)) = false → k [Dat.mk Ty.bool false]))) ∧ (decide ((↑x.fst : Int) < (↑mv.length : Int)) = false → BkS (Bk.mk x.snd.fst.mo x.snd.fst.wa x.snd.fst.no x.snd.fst.he x.snd.fst.ca x.snd.fst.bg) ∧ (decide ((↑(wayF (Bk.mk x.snd.fst.mo x.snd.fst.wa x.snd.fst.no x.snd.fst.he x.snd.fst.ca x.snd.fst.bg) (-1 : Int) (0 : Int)).length : Int) = (0 : Int)) = true → BkS (Bk.mk x.snd.fst.mo x.snd.fst.wa x.snd.fst.no x.snd.fst.he x.snd.fst.ca x.snd.fst.bg) ∧ k [Dat.mk Ty.bool (decide ((↑(wayF (Bk.mk x.snd.fst.mo x.snd.fst.wa x.snd.fst.no x.snd.fst.he x.snd.fst.ca x.snd.fst.bg) (0 : Int) (↑mo.length : Int)).length : Int) = (0 : Int)))]) ∧ (decide ((↑(wayF (Bk.mk x.snd.fst.mo x.snd.fst.wa x.snd.fst.no x.snd.fst.he x.snd.fst.ca x.snd.fst.bg) (-1 : Int) (0 : Int)).length : Int) = (0 : Int)) = false → k [Dat.mk Ty.bool false]))))) ∧ (newE mo ≠ (0 : Int) → ((!decide (newE mo = (0 : Int))) = true → (inK IntKind.i64 (newE mo) ∧ True) ∧ k [Dat.mk Ty.bool (decide (newE mo = newE mo))]) ∧ ((!decide (newE mo = (0 : Int))) = false → ((!decide (newE mo = (0 : Int))) = true → (inK IntKind.i64 (newE mo) ∧ True) ∧ k [Dat.mk Ty.bool (decide (newE mo = newE mo))]) ∧ ((!decide (newE mo = (0 : Int))) = false → (∃ (x : Nat × Bk × Xb), ((x.fst ≤ mv.length ∧ x.fst ≤ (100 : Nat)) ∧ RB mo.length x.snd.fst x.snd.snd) ∧ (mo = mo ∧ mv = mv ∧ ([] : List Nat) = [] ∧ True ∧ (↑mo.length : Int) = (↑mo.length : Int) ∧ (0 : Int) = (↑x.fst : Int) ∧ True) ∧ (((58 : Nat) = (58 : Nat) ∧ newXq mo = x.snd.snd) ∧ False ∧ False ∧ False ∧ False ∧ False ∧ False ∧ True) ∧ hdE = hdE ∧ True) ∧ ∀ (x : Nat × Bk × Xb), (x.fst ≤ mv.length ∧ x.fst ≤ (100 : Nat)) ∧ RB mo.length x.snd.fst x.snd.snd → (decide ((↑x.fst : Int) < (↑mv.length : Int)) = true → (decide ((↑x.fst : Int) < (100 : Int)) = true → (0 : Int) ≤ (↑x.fst : Int) ∧ (↑x.fst : Int) < (↑mv.length : Int) ∧ XbOk x.snd.snd ∧ (0 : Int) ≤ (↑x.fst : Int) ∧ (↑x.fst : Int) < (↑mv.length : Int) ∧ XbOk x.snd.snd ∧ (mo = mo ∧ mv = mv ∧ SV.pv ((I).sl.pr ((I).sl.pr ((I).sl.sl.pr (Ty.bool.sl.pr ((I).sl.pr (Ty.bool.pr Ty.un)))))) (0 : Nat) [] = SV.pv ((I).sl.pr ((I).sl.pr ((I).sl.sl.pr (Ty.bool.sl.pr ((I).sl.pr (Ty.bool.pr Ty.un)))))) (0 : Nat) [] ∧ SV.nilp = SV.nilp ∧ (↑mo.length : Int) = (↑mo.length : Int) ∧ (↑x.fst : Int) = (↑x.fst : Int) ∧ (↑x.fst : Int) = (↑x.fst : Int) ∧ mv = mv ∧ (↑mv.length : Int) = (↑mv.length : Int) ∧ decide ((↑x.fst : Int) < (↑mv.length : Int)) = decide ((↑x.fst : Int) < (↑mv.length : Int)) ∧ SV.bt true = SV.bt true ∧ (↑x.fst : Int) = (↑x.fst : Int) ∧ decide ((↑x.fst : Int) < (100 : Int)) = decide ((↑x.fst : Int) < (100 : Int)) ∧ decide ((↑x.fst : Int) < (100 : Int)) = decide ((↑x.fst : Int) < (100 : Int)) ∧ SV.tp [SV.d ((I).sl.pr ((I).sl.pr ((I).sl.sl.pr (Ty.bool.sl.pr ((I).sl.pr (Ty.bool.pr Ty.un)))))) (mvX x.snd.snd (mv.getD (↑x.fst : Int).toNat ((0 : Int), (0 : Int), (0 : Int), (0 : Int), ()))).fst, SV.d (I) (mvX x.snd.snd (mv.getD (↑x.fst : Int).toNat ((0 : Int), (0 : Int), (0 : Int), (0 : Int), ()))).snd] = SV.tp [SV.d ((I).sl.pr ((I).sl.pr ((I).sl.sl.pr (Ty.bool.sl.pr ((I).sl.pr (Ty.bool.pr Ty.un)))))) (mvX x.snd.snd (mv.getD (↑x.fst : Int).toNat ((0 : Int), (0 : Int), (0 : Int), (0 : Int), ()))).fst, SV.d (I) (mvX x.snd.snd (mv.getD (↑x.fst : Int).toNat ((0 : Int), (0 : Int), (0 : Int), (0 : Int), ()))).snd] ∧ x.snd.snd = x.snd.snd ∧ mv = mv ∧ (↑x.fst : Int) = (↑x.fst : Int) ∧ SV.ra ((I).pr ((I).pr ((I).pr ((I).pr Ty.un)))) (mv.getD (↑x.fst : Int).toNat ((0 : Int), (0 : Int), (0 : Int), (0 : Int), ())) = SV.ra ((I).pr ((I).pr ((I).pr ((I).pr Ty.un)))) (mv.getD (↑x.fst : Int).toNat ((0 : Int), (0 : Int), (0 : Int), (0 : Int), ())) ∧ mv.getD (↑x.fst : Int).toNat ((0 : Int), (0 : Int), (0 : Int), (0 : Int), ()) = mv.getD (↑x.fst : Int).toNat ((0 : Int), (0 : Int), (0 : Int), (0 : Int), ()) ∧ SV.tp [SV.d ((I).sl.pr ((I).sl.pr ((I).sl.sl.pr (Ty.bool.sl.pr ((I).sl.pr (Ty.bool.pr Ty.un)))))) (mvX x.snd.snd (mv.getD (↑x.fst : Int).toNat ((0 : Int), (0 : Int), (0 : Int), (0 : Int), ()))).fst, SV.d (I) (mvX x.snd.snd (mv.getD (↑x.fst : Int).toNat ((0 : Int), (0 : Int), (0 : Int), (0 : Int), ()))).snd] = SV.tp [SV.d ((I).sl.pr ((I).sl.pr ((I).sl.sl.pr (Ty.bool.sl.pr ((I).sl.pr (Ty.bool.pr Ty.un)))))) (mvX x.snd.snd (mv.getD (↑x.fst : Int).toNat ((0 : Int), (0 : Int), (0 : Int), (0 : Int), ()))).fst, SV.d (I) (mvX x.snd.snd (mv.getD (↑x.fst : Int).toNat ((0 : Int), (0 : Int), (0 : Int), (0 : Int), ()))).snd] ∧ (mvX x.snd.snd (mv.getD (↑x.fst : Int).toNat ((0 : Int), (0 : Int), (0 : Int), (0 : Int), ()))).fst = (mvX x.snd.snd (mv.getD (↑x.fst : Int).toNat ((0 : Int), (0 : Int), (0 : Int), (0 : Int), ()))).fst ∧ (mvX x.snd.snd (mv.getD (↑x.fst : Int).toNat ((0 : Int), (0 : Int), (0 : Int), (0 : Int), ()))).snd = (mvX x.snd.snd (mv.getD (↑x.fst : Int).toNat ((0 : Int), (0 : Int), (0 : Int), (0 : Int), ()))).snd ∧ True) ∧ ((0 : Int) ≤ (↑x.fst : Int) ∧ (↑x.fst : Int) < (↑mv.length : Int) ∧ True ∧ False) ∧ ∀ (x : Bk × Xb), RB mo.length x.fst x.snd → False) ∧ (decide ((↑x.fst : Int) < (100 : Int)) = false → False)) ∧ (decide ((↑x.fst : Int) < (↑mv.length : Int)) = false → False))))) := by kernel_rfl
end Go.Proofs.YtjgdpblaghhfhaaDoor

/- Banks: the conditions of the laws SnapNotes and SnapEnds. -/
namespace Go.Proofs.YtjgdpblaghhfhaaDoor.N
open Go.Vc
def wasF (b : Bk) : Int := if allF b = true then b.no.getD 0 0 else -1
def rowC (b : Bk) (p q : Nat) : Int := sumTo q fun j => at2 b.ca p j
def cutS (b : Bk) (p : Nat) : Int := sumTo p fun i => b.no.getD i 0 + rowC b i b.mo.length
def bobN (b : Bk) : List Ob := bob b ++ [.row 3 I b.no, .trow 29 oR b.ca]
def anNotes (mo : List Int) (mv : List Mv) : Ann :=
  [joinAll,
   loopAt 10 Nat [] (fun st i => { St.at (St.only st [0, 1, 8]) [(6, .ps 0), (9, .d I (wasF (bAt mo mv i))), (10, .d I (i : Int))] with ob := bob (bAt mo mv i) }) (fun _ i => (i ≤ mv.length ∧ i ≤ 100) ∧ newE mo = 0) (fun i => 100 - i),
   loopAt 19 Nat [] (fun st p => { St.at (St.only st [0, 1, 8, 9, 10]) [(6, .ps 0), (11, .os 6), (12, .os 7), (14, .d I (cutS (bAt mo mv ((st.i 10).toNat + 1)) p)), (15, .d I (p : Int))] with ob := bobN (bAt mo mv ((st.i 10).toNat + 1)) }) (fun _ p => p ≤ mo.length ∧ True) (fun p => mo.length - p),
   loopAt 25 Nat [] (fun st q => { St.at (St.only st [0, 1, 8, 9, 10, 15]) [(6, .ps 0), (11, .os 6), (12, .os 7), (14, .d I (cutS (bAt mo mv ((st.i 10).toNat + 1)) (st.i 15).toNat + (bAt mo mv ((st.i 10).toNat + 1)).no.getD (st.i 15).toNat 0 + rowC (bAt mo mv ((st.i 10).toNat + 1)) (st.i 15).toNat q)), (16, .d I (q : Int))] with ob := bobN (bAt mo mv ((st.i 10).toNat + 1)) }) (fun _ q => q ≤ mo.length ∧ True) (fun q => mo.length - q)]
/-- how far all that is on its way has come: r rounds, in the next one the ways from those below p, and from p to those below q -/
structure Pr (n : Nat) (b : Bk) (T : Int) (r p q : Nat) : Prop where
  g : Gd n b T
  nt : ∃ c, c < n ∧ 0 ≤ b.no.getD c 0 ∧ ∀ j, j < n → 1 ≤ r ∨ c < p ∨ (p = c ∧ j < q) → 0 ≤ b.no.getD j 0
  em : ∀ i j, i < n → j < n → 2 ≤ r ∨ (r = 1 ∧ (i < p ∨ i = p ∧ j < q)) → at3 b.wa i j = []
def anEnds (mo : List Int) (mv : List Mv) : Ann :=
  [joinAll,
   loopAt 8 Nat [] (fun st i => { St.at (St.only st [0, 1]) [(6, .ps 0), (8, .d I (i : Int))] with ob := bob (bAt mo mv i) }) (fun _ i => (i ≤ mv.length ∧ i ≤ 40) ∧ newE mo = 0) (fun i => 40 - i),
   loopAt 14 (Bk × Nat) [] (fun st x => { St.at (St.only st [0, 9]) [(6, .ps 0), (10, .d I (x.2 : Int))] with ob := bob x.1 }) (fun _ x => x.2 ≤ 5 ∧ Pr mo.length x.1 (sumL mo) x.2 0 0) (fun x => 5 - x.2),
   loopAt 17 (Bk × Nat) [] (fun st x => { St.at (St.only st [0, 9, 10]) [(6, .ps 0), (11, .d I (x.2 : Int))] with ob := bob x.1 }) (fun st x => x.2 ≤ mo.length ∧ Pr mo.length x.1 (sumL mo) (st.i 10).toNat x.2 0) (fun x => mo.length - x.2),
   loopAt 20 (Bk × Nat) [] (fun st x => { St.at (St.only st [0, 9, 10, 11]) [(6, .ps 0), (12, .d I (x.2 : Int))] with ob := bob x.1 }) (fun st x => x.2 ≤ mo.length ∧ Pr mo.length x.1 (sumL mo) (st.i 10).toNat (st.i 11).toNat x.2) (fun x => mo.length - x.2),
   loopAt 23 (Bk × Nat) [] (fun st x => { St.at (St.only st [0, 9, 10, 11, 12]) [(6, .ps 0), (13, .d I (x.2 : Int))] with ob := bob x.1 }) (fun st x => x.2 + (at3 x.1.wa (st.i 11).toNat (st.i 12).toNat).length ≤ 9 ∧ Pr mo.length x.1 (sumL mo) (st.i 10).toNat (st.i 11).toNat (st.i 12).toNat) (fun x => 20 - x.2)]
end Go.Proofs.YtjgdpblaghhfhaaDoor.N

/- Banks: what all noted stays; all that is on its way comes. -/
namespace Go.Proofs.YtjgdpblaghhfhaaDoor.N
open Go.Vc
theorem foldl_min : ∀ (r : List Int) (x : Int), 0 ≤ r.foldl min x ↔ 0 ≤ x ∧ ∀ v ∈ r, 0 ≤ v
  | [], x => by simp
  | v :: r, x => by
    rw [List.foldl_cons, foldl_min r]
    constructor
    · intro ⟨h1, h2⟩
      exact ⟨by omega, fun u hu => by
        cases hu with
        | head => omega
        | tail _ h => exact h2 u h⟩
    · intro ⟨h1, h2⟩
      have := h2 v List.mem_cons_self
      exact ⟨by omega, fun u hu => h2 u (List.mem_cons_of_mem _ hu)⟩
theorem minL_ge {l : List Int} (h : l.length ≠ 0) : 0 ≤ minL l ↔ ∀ i, i < l.length → 0 ≤ l.getD i 0 := by
  cases l with
  | nil => exact absurd rfl h
  | cons x r =>
    show 0 ≤ r.foldl min x ↔ _
    rw [foldl_min]
    constructor
    · intro ⟨h1, h2⟩ i hi
      rcases List.mem_cons.1 (getD_memL hi 0) with h | h
      · rw [h]; exact h1
      · exact h2 _ h
    · intro hh
      have : ∀ v ∈ x :: r, 0 ≤ v := fun v hv => by
        obtain ⟨i, hi, rfl⟩ := mem_getD hv
        exact hh i hi
      exact ⟨this x List.mem_cons_self, fun v hv => this v (List.mem_cons_of_mem _ hv)⟩
theorem sumTo_add (n : Nat) (f g : Nat → Int) : sumTo n (fun i => f i + g i) = sumTo n f + sumTo n g := by
  induction n with
  | zero => rfl
  | succ m ih => show sumTo m (fun i => f i + g i) + (f m + g m) = sumTo m f + f m + (sumTo m g + g m); rw [ih]; omega
section
variable {n : Nat} {b : Bk} {T : Int}
theorem Gd.all (g : Gd n b T) : allF b = true ↔ (∀ i, i < n → 0 ≤ b.no.getD i 0) ∧ ∀ i j, i < n → j < n → i ≠ j → at2b b.he i j = true := by
  have n1 := g.n1
  have h1 := minL_ge (l := b.no) (by rw [g.no]; omega)
  rw [g.no] at h1
  unfold allF
  rw [Bool.and_eq_true, decide_eq_true_eq, h1, doneA_iff, g.mo]
  constructor
  · intro ⟨ha, hb⟩
    refine ⟨ha, fun i j hi hj hn => ?_⟩
    rcases doneR_iff.1 (hb i hi) j hj with h | h
    · exact absurd h.symm hn
    · exact h
  · intro ⟨ha, hb⟩
    exact ⟨ha, fun t ht => doneR_iff.2 fun j hj => if e : j = t then .inl e else .inr (hb t j ht hj fun h => e h.symm)⟩
/-- what all noted is all there is -/
theorem Gd.cutS (g : Gd n b T) (h : allF b = true) : cutS b n = T := by
  obtain ⟨h1, h2⟩ := g.all.1 h
  have hc := g.g.cut
  unfold N.cutS
  rw [sumTo_add]
  rw [sumTo_congr (g := fun i => b.no.getD i 0) fun i hi => by rw [if_pos (h1 i hi)]] at hc
  rw [sum2_congr (g := fun i j => at2 b.ca i j) fun i j hi hj => by
    have : rst (b.no.getD j 0) (at2b b.he i j) (at3 b.wa j i) = 0 := by
      unfold rst
      rw [if_pos (h1 j hj)]
      by_cases e : i = j
      · subst e
        split
        · rfl
        · rw [g.g.wz i hi]; rfl
      · rw [if_pos (h2 i j hi hj e)]
    rw [this]; omega] at hc
  rw [g.mo]
  exact hc
/-- what is noted stays -/
theorem Gd.keep (g : Gd n b T) (k f t s : Int) : (∀ i, i < n → 0 ≤ b.no.getD i 0 → (doF b k f t s).2.no.getD i 0 = b.no.getD i 0) ∧ ∀ i j, i < n → j < n → at2b b.he i j = true → at2b (doF b k f t s).2.he i j = true := by
  have tr : ∀ x : Int, (∀ i, i < n → 0 ≤ b.no.getD i 0 → ((x, b) : Int × Bk).2.no.getD i 0 = b.no.getD i 0) ∧ ∀ i j, i < n → j < n → at2b b.he i j = true → at2b ((x, b) : Int × Bk).2.he i j = true := fun _ => ⟨fun _ _ _ => rfl, fun _ _ _ _ h => h⟩
  unfold doF
  by_cases h1 : inB k 0 2 = false ∨ inB f 0 ((b.mo.length : Int) - 1) = false
  · rw [if_pos h1]; exact tr _
  rw [if_neg h1]
  have hf : 0 ≤ f ∧ f ≤ (b.mo.length : Int) - 1 := inB_iff.1 (by
    cases h : inB f 0 ((b.mo.length : Int) - 1)
    · exact absurd (.inr h) h1
    · rfl)
  rw [g.mo] at hf
  have hf' : f.toNat < n := by omega
  by_cases h2 : k = 2
  · rw [if_pos h2]
    by_cases h3 : b.bg = true
    · rw [if_pos h3]; exact tr _
    · rw [if_neg h3]
      have := g.b0 (by simpa using h3)
      refine ⟨fun i hi h => ?_, fun _ _ _ _ h => h⟩
      have := this i hi
      omega
  rw [if_neg h2]
  by_cases h3 : inB t 0 ((b.mo.length : Int) - 1) = false
  · rw [if_pos h3]; exact tr _
  rw [if_neg h3]
  have ht : 0 ≤ t ∧ t ≤ (b.mo.length : Int) - 1 := inB_iff.1 (by simpa using h3)
  rw [g.mo] at ht
  have ht' : t.toNat < n := by omega
  by_cases h4 : f = t
  · rw [if_pos h4]; exact tr _
  rw [if_neg h4]
  by_cases h5 : k = 0
  · rw [if_pos h5]
    by_cases h6 : inB s 0 1000 = false
    · rw [if_pos h6]; exact tr _
    rw [if_neg h6]
    by_cases h7 : b.mo.getD f.toNat 0 < s
    · rw [if_pos h7]; exact tr _
    rw [if_neg h7]
    by_cases h8 : 8 ≤ (at3 b.wa f.toNat t.toNat).length
    · rw [if_pos h8]; exact tr _
    rw [if_neg h8]
    exact ⟨fun _ _ _ => rfl, fun _ _ _ _ h => h⟩
  · rw [if_neg h5]
    by_cases h6 : (at3 b.wa f.toNat t.toNat).length = 0
    · rw [if_pos h6]; exact tr _
    · rw [if_neg h6]
      unfold comeF
      by_cases e : (at3 b.wa f.toNat t.toNat).getD 0 0 = -1
      · have hw : ∀ i j, i < n → j < n → at2b b.he i j = true → at2b (wr2b b.he t.toNat f.toNat true) i j = true := fun i j hi hj h => by
          rw [at2b_wr g.he _ ht' hf']
          by_cases e1 : i = t.toNat ∧ j = f.toNat
          · rw [if_pos e1]
          · rw [if_neg e1]; exact h
        rw [if_pos e]
        by_cases hn : b.no.getD t.toNat 0 < 0
        · simp only [if_pos hn]
          refine ⟨fun i hi h => ?_, hw⟩
          show (b.no.set t.toNat (b.mo.getD t.toNat 0)).getD i 0 = _
          rw [getD_set' _ _ _ _ _ (by rw [g.no]; exact ht'), if_neg]
          intro e; subst e; omega
        · simp only [if_neg hn]
          exact ⟨fun _ _ _ => trivial, hw⟩
      · rw [if_neg e]
        exact ⟨fun _ _ _ => rfl, fun _ _ _ _ h => h⟩
theorem Gd.allStep (g : Gd n b T) (m : Mv) (h : allF b = true) : allF (stepB b m) = true ∧ (stepB b m).no.getD 0 0 = b.no.getD 0 0 := by
  obtain ⟨h1, h2⟩ := g.all.1 h
  obtain ⟨k1, k2⟩ := g.keep m.1 m.2.1 m.2.2.1 m.2.2.2.1
  have g' : Gd n (stepB b m) T := g.move m.1 m.2.1 m.2.2.1 m.2.2.2.1
  have n1 := g.n1
  refine ⟨g'.all.2 ⟨fun i hi => ?_, fun i j hi hj hn => k2 i j hi hj (h2 i j hi hj hn)⟩, k1 0 (by omega) (h1 0 (by omega))⟩
  have := k1 i hi (h1 i hi)
  show 0 ≤ (doF b m.1 m.2.1 m.2.2.1 m.2.2.2.1).2.no.getD i 0
  rw [this]; exact h1 i hi
/-- one comes -/
theorem doF_come (g : Gd n b T) {p q : Nat} (hp : p < n) (hq : q < n) (pq : p ≠ q) (hl : (at3 b.wa p q).length ≠ 0) (s : Int) :
    doF b 1 (p : Int) (q : Int) s = (0, comeF ⟨b.mo, wr3 b.wa p q ((at3 b.wa p q).drop 1), b.no, b.he, b.ca, b.bg⟩ ((at3 b.wa p q).getD 0 0) p q) := by
  have i1 : inB (p : Int) 0 ((b.mo.length : Int) - 1) = true := inB_iff.2 (by rw [g.mo]; omega)
  have i2 : inB (q : Int) 0 ((b.mo.length : Int) - 1) = true := inB_iff.2 (by rw [g.mo]; omega)
  unfold doF
  rw [i1, i2, if_neg (by decide), if_neg (by decide), if_neg (by decide), if_neg (by omega), if_neg (by decide)]
  show (if (at3 b.wa p q).length = 0 then _ else _) = _
  rw [if_neg hl]
  rfl
theorem come_wa (g : Gd n b T) {p q : Nat} (hp : p < n) (hq : q < n) (pq : p ≠ q) (v : Int) {i j : Nat} (hj : j < n) (h : i ≠ q ∨ 0 ≤ b.no.getD q 0) :
    at3 (comeF ⟨b.mo, wr3 b.wa p q ((at3 b.wa p q).drop 1), b.no, b.he, b.ca, b.bg⟩ v p q).wa i j = if i = p ∧ j = q then (at3 b.wa p q).drop 1 else at3 b.wa i j := by
  have s1 : Sq (wr3 b.wa p q ((at3 b.wa p q).drop 1)) n := Sq.wr g.wa _ hp
  unfold comeF
  by_cases e : v = -1
  · rw [if_pos e]
    by_cases hn : b.no.getD q 0 < 0
    · simp only [if_pos hn]
      show at3 (noteW (wr3 b.wa p q ((at3 b.wa p q).drop 1)) q b.mo.length) i j = _
      rw [g.mo, noteW_at' s1 hq hj, if_neg (by omega), at3_wr g.wa _ hp hq]
    · simp only [if_neg hn]
      exact at3_wr g.wa _ hp hq i j
  · rw [if_neg e]
    exact at3_wr g.wa _ hp hq i j
theorem Pr.come {r p q : Nat} (P : Pr n b T r p q) (hp : p < n) (hq : q < n) (pq : p ≠ q) (hl : (at3 b.wa p q).length ≠ 0) (s : Int) :
    (doF b 1 (p : Int) (q : Int) s).1 = 0 ∧ Pr n (doF b 1 (p : Int) (q : Int) s).2 T r p q ∧ (at3 (doF b 1 (p : Int) (q : Int) s).2.wa p q).length + 1 = (at3 b.wa p q).length := by
  have g' := P.g.move 1 (p : Int) (q : Int) s
  obtain ⟨k1, k2⟩ := P.g.keep 1 (p : Int) (q : Int) s
  have e := doF_come P.g hp hq pq hl s
  refine ⟨by rw [e], ⟨g', ?_, ?_⟩, ?_⟩
  · obtain ⟨c, hc, h0, h⟩ := P.nt
    exact ⟨c, hc, by rw [k1 c hc h0]; exact h0, fun j hj hx => by rw [k1 j hj (h j hj hx)]; exact h j hj hx⟩
  · intro i j hi hj hx
    obtain ⟨c, hc, h0, h⟩ := P.nt
    have hx' := P.em i j hi hj hx
    rw [e]
    show at3 (comeF _ _ p q).wa i j = []
    rw [come_wa P.g hp hq pq _ hj (.inr (h q hq (.inl (by omega))))]
    split
    · next hh => obtain ⟨rfl, rfl⟩ := hh; rw [hx']; rfl
    · exact hx'
  · rw [e]
    show (at3 (comeF _ _ p q).wa p q).length + 1 = _
    rw [come_wa P.g hp hq pq _ hq (.inl pq), if_pos ⟨rfl, rfl⟩, List.length_drop]
    omega
theorem Pr.next {r p q : Nat} (P : Pr n b T r p q) (hp : p < n) (hq : q < n) (h : p = q ∨ at3 b.wa p q = []) : Pr n b T r p (q + 1) := by
  refine ⟨P.g, ?_, fun i j hi hj hx => ?_⟩
  · obtain ⟨c, hc, h0, hh⟩ := P.nt
    refine ⟨c, hc, h0, fun j hj hx => ?_⟩
    by_cases e : p = c ∧ j = q
    · obtain ⟨rfl, rfl⟩ := e
      by_cases e2 : p = j
      · subst e2; exact h0
      · have hw := h.resolve_left e2
        have hc := P.g.g.cn p j hp hj
        rw [hw] at hc
        have : at2b b.he j p = true := by
          cases h3 : at2b b.he j p
          · rw [if_pos ⟨e2, h0, h3⟩] at hc; exact absurd hc (by decide)
          · rfl
        exact (P.g.g.hn j p hj hp this).1
    · exact hh j hj (by omega)
  · by_cases e : i = p ∧ j = q
    · obtain ⟨rfl, rfl⟩ := e
      rcases h with h | h
      · subst h; exact P.g.g.wz i hi
      · exact h
    · exact P.em i j hi hj (by omega)
theorem Pr.row {r p : Nat} (P : Pr n b T r p n) : Pr n b T r (p + 1) 0 := by
  obtain ⟨c, hc, h0, hh⟩ := P.nt
  exact ⟨P.g, ⟨c, hc, h0, fun j hj hx => hh j hj (by omega)⟩, fun i j hi hj hx => P.em i j hi hj (by omega)⟩
theorem Pr.round {r : Nat} (P : Pr n b T r n 0) : Pr n b T (r + 1) 0 0 := by
  obtain ⟨c, hc, h0, hh⟩ := P.nt
  exact ⟨P.g, ⟨c, hc, h0, fun j hj hx => hh j hj (by omega)⟩, fun i j hi hj hx => P.em i j hi hj (by omega)⟩
theorem Pr.start (g : Gd n b T) (t s : Int) : Pr n (doF b 2 0 t s).2 T 0 0 0 := by
  have n1 := g.n1
  have g' := g.move 2 0 t s
  have hb : ∃ c, c < n ∧ 0 ≤ (doF b 2 0 t s).2.no.getD c 0 := by
    apply g'.b1
    unfold doF
    have i1 : inB (0 : Int) 0 ((b.mo.length : Int) - 1) = true := inB_iff.2 (by rw [g.mo]; omega)
    rw [i1, if_neg (by decide), if_pos rfl]
    by_cases h : b.bg = true
    · rw [if_pos h]; exact h
    · rw [if_neg h]; rfl
  obtain ⟨c, hc, h0⟩ := hb
  exact ⟨g', ⟨c, hc, h0, fun j hj hx => by omega⟩, fun i j hi hj hx => by omega⟩
theorem Pr.done {r : Nat} (P : Pr n b T r 0 0) (hr : 2 ≤ r) : allF b = true ∧ sumL b.mo = T := by
  obtain ⟨c, hc, h0, hh⟩ := P.nt
  have hno : ∀ i, i < n → 0 ≤ b.no.getD i 0 := fun i hi => hh i hi (.inl (by omega))
  have hem : ∀ i j, i < n → j < n → at3 b.wa i j = [] := fun i j hi hj => P.em i j hi hj (.inl hr)
  constructor
  · refine P.g.all.2 ⟨hno, fun i j hi hj hn => ?_⟩
    have hc := P.g.g.cn j i hj hi
    rw [hem j i hj hi] at hc
    cases h3 : at2b b.he i j
    · rw [if_pos ⟨fun h => hn h.symm, hno j hj, h3⟩] at hc; exact absurd hc (by decide)
    · rfl
  · have h := P.g.whole
    unfold wholeF at h
    rw [P.g.mo] at h
    have : sumTo n (fun p => rowSum b p n) = 0 := by
      rw [sumTo_congr (g := fun _ => 0) fun p hp => ?_, sumTo_zero]
      unfold rowSum
      rw [sumTo_congr (g := fun _ => 0) fun q hq => ?_, sumTo_zero]
      unfold waySum
      rw [hem p q hp hq]; rfl
    rw [this] at h
    omega
theorem Pr.len {r p q : Nat} (P : Pr n b T r p q) (hp : p < n) (hq : q < n) : (at3 b.wa p q).length ≤ 9 := by
  have h1 := P.g.g.wl p q hp hq
  have h2 := P.g.g.cn p q hp hq
  split at h2 <;> omega
end
end Go.Proofs.YtjgdpblaghhfhaaDoor.N

/- Banks: the program's bank and the reference's go alike. -/
namespace Go.Proofs.YtjgdpblaghhfhaaDoor.N
open Go.Vc
theorem ix_inj {n i j p q : Nat} (hj : j < n) (hq : q < n) : p * n + q = i * n + j ↔ i = p ∧ j = q := by
  constructor
  · intro h
    have h1 : (p * n + q) / n = p := by rw [Nat.mul_comm, Nat.mul_add_div (by omega), Nat.div_eq_of_lt hq, Nat.add_zero]
    have h2 : (i * n + j) / n = i := by rw [Nat.mul_comm, Nat.mul_add_div (by omega), Nat.div_eq_of_lt hj, Nat.add_zero]
    have e : i = p := by rw [← h1, ← h2, h]
    subst e
    exact ⟨rfl, by omega⟩
  · rintro ⟨rfl, rfl⟩; rfl
theorem set_ix {α : Type} {l : List α} {n : Nat} (hl : l.length = n * n) {p q : Nat} (hp : p < n) (hq : q < n) (v d : α) {i j : Nat} (hj : j < n) :
    (l.set (p * n + q) v).getD (i * n + j) d = if i = p ∧ j = q then v else l.getD (i * n + j) d := by
  rw [getD_setA _ _ _ _ _ (by rw [hl]; exact ix hp hq)]
  by_cases h : i = p ∧ j = q
  · rw [if_pos h, if_pos ((ix_inj hj hq).2 h)]
  · rw [if_neg h, if_neg fun e => h ((ix_inj hj hq).1 e)]
/-- they hold the same -/
structure RS (n : Nat) (b : Bk) (x : Xb) : Prop where
  bm : b.mo.length = n
  sw : Sq b.wa n
  sh : Sq b.he n
  sc : Sq b.ca n
  mo : x.1 = b.mo
  no : x.2.1 = b.no
  wl : x.2.2.1.length = n * n
  hl : x.2.2.2.1.length = n * n
  cl : x.2.2.2.2.1.length = n * n
  wa : ∀ i j, i < n → j < n → x.2.2.1.getD (i * n + j) [] = at3 b.wa i j
  he : ∀ i j, i < n → j < n → x.2.2.2.1.getD (i * n + j) false = at2b b.he i j
  ca : ∀ i j, i < n → j < n → x.2.2.2.2.1.getD (i * n + j) 0 = at2 b.ca i j
  bg : x.2.2.2.2.2.1 = b.bg
theorem RS.note {n : Nat} {b : Bk} {x : Xb} (R : RS n b x) {p : Nat} (hp : p < n) : RS n (noteF b p) (noteX x p) := by
  obtain ⟨xm, xn, xw, xh, xc, xb, ⟨⟩⟩ := x
  obtain ⟨mo, wa, no, he, ca, bg⟩ := b
  obtain ⟨bm, sw, sh, sc, rmo, rno, wl, hl, cl, rwa, rhe, rca, rbg⟩ := R
  simp only at bm sw sh sc rmo rno wl hl cl rwa rhe rca rbg
  subst rmo; subst rno; subst rbg; subst bm
  have s1 : Sq (noteW wa p xm.length) xm.length := noteW_sq sw hp _
  refine ⟨rfl, s1, sh, sc, rfl, rfl, (wnX_len _ _ _ _).trans wl, hl, cl, fun i j hi hj => ?_, rhe, rca, rfl⟩
  show (wnX xw p xm.length xm.length).getD (i * xm.length + j) [] = at3 (noteW wa p xm.length) i j
  rw [wnX_at xw wl hp i j hi hj _ (Nat.le_refl _), noteW_at' sw hp hj, rwa i j hi hj]
  by_cases h : i = p ∧ j ≠ p
  · rw [if_pos h, if_pos ⟨h.1, hj, h.2⟩]
  · rw [if_neg h, if_neg fun e => h ⟨e.1, e.2.2⟩]
theorem RS.ways {n : Nat} {b : Bk} {x : Xb} (R : RS n b x) {p q : Nat} (hp : p < n) (hq : q < n) (m m' : List Int) (bg' : Bool) (hm : m.length = n) (hx : m' = m) (hb : bg' = b.bg) (v : List Int) :
    RS n ⟨m, wr3 b.wa p q v, b.no, b.he, b.ca, b.bg⟩ (m', x.2.1, x.2.2.1.set (p * n + q) v, x.2.2.2.1, x.2.2.2.2.1, bg', ()) := by
  refine ⟨hm, Sq.wr R.sw _ hp, R.sh, R.sc, hx, R.no, (List.length_set ..).trans R.wl, R.hl, R.cl, fun i j hi hj => ?_, R.he, R.ca, hb⟩
  show (x.2.2.1.set (p * n + q) v).getD (i * n + j) [] = at3 (wr3 b.wa p q v) i j
  rw [set_ix R.wl hp hq _ _ hj, at3_wr R.sw _ hp hq, R.wa i j hi hj]
theorem RS.come {n : Nat} {b : Bk} {x : Xb} (R : RS n b x) {f t : Nat} (hf : f < n) (ht : t < n) (v : Int) (m1 : -1 ≤ b.no.getD t 0) : RS n (comeF b v f t) (comeX x v f t) := by
  unfold comeF comeX
  by_cases h : v = -1
  · rw [if_pos h, if_pos h]
    have hn : RS n (if b.no.getD t 0 < 0 then noteF b t else b) (if x.2.1.getD t 0 = -1 then noteX x t else x) := by
      rw [R.no]
      by_cases h1 : b.no.getD t 0 < 0
      · rw [if_pos h1, if_pos (by omega)]; exact R.note ht
      · rw [if_neg h1, if_neg (by omega)]; exact R
    generalize (if b.no.getD t 0 < 0 then noteF b t else b) = c at hn
    generalize (if x.2.1.getD t 0 = -1 then noteX x t else x) = y at hn
    have ex : x.1.length = n := by rw [R.mo]; exact R.bm
    refine ⟨hn.bm, hn.sw, Sq.wr hn.sh _ ht, hn.sc, hn.mo, hn.no, hn.wl, (List.length_set ..).trans hn.hl, hn.cl, hn.wa, fun i j hi hj => ?_, hn.ca, hn.bg⟩
    show (y.2.2.2.1.set (t * x.1.length + f) true).getD (i * n + j) false = at2b (wr2b c.he t f true) i j
    rw [ex, set_ix hn.hl ht hf _ _ hj, at2b_wr hn.sh _ ht hf, hn.he i j hi hj]
  · rw [if_neg h, if_neg h]
    have ex : x.1.length = n := by rw [R.mo]; exact R.bm
    rw [ex, R.no, R.he t f ht hf]
    have em : x.1.set t (x.1.getD t 0 + v) = b.mo.set t (b.mo.getD t 0 + v) := by rw [R.mo]
    by_cases hc : 0 ≤ b.no.getD t 0 ∧ at2b b.he t f = false
    · rw [if_pos hc, if_pos hc]
      refine ⟨(List.length_set ..).trans R.bm, R.sw, R.sh, Sq.wr R.sc _ ht, em, rfl, R.wl, R.hl, (List.length_set ..).trans R.cl, R.wa, R.he, fun i j hi hj => ?_, R.bg⟩
      show (x.2.2.2.2.1.set (t * n + f) (x.2.2.2.2.1.getD (t * n + f) 0 + v)).getD (i * n + j) 0 = at2 (wr2 b.ca t f (at2 b.ca t f + v)) i j
      rw [set_ix R.cl ht hf _ _ hj, at2_wr R.sc _ ht hf, R.ca i j hi hj, R.ca t f ht hf]
    · rw [if_neg hc, if_neg hc]
      exact ⟨(List.length_set ..).trans R.bm, R.sw, R.sh, R.sc, em, rfl, R.wl, R.hl, R.cl, R.wa, R.he, R.ca, R.bg⟩
theorem RS.move {n : Nat} {b : Bk} {x : Xb} (R : RS n b x) (m1 : ∀ i, i < n → -1 ≤ b.no.getD i 0) (k f t s : Int) :
    (doF b k f t s).1 = (moveX x k f t s).2 ∧ RS n (doF b k f t s).2 (moveX x k f t s).1 := by
  have ex : x.1.length = n := by rw [R.mo]; exact R.bm
  unfold doF moveX
  rw [ex, R.bm, R.bg]
  by_cases h1 : inB k 0 2 = false ∨ inB f 0 ((n : Int) - 1) = false
  · rw [if_pos h1, if_pos h1]; exact ⟨rfl, R⟩
  rw [if_neg h1, if_neg h1]
  have hf : 0 ≤ f ∧ f ≤ (n : Int) - 1 := inB_iff.1 (by
    cases h : inB f 0 ((n : Int) - 1)
    · exact absurd (.inr h) h1
    · rfl)
  have hf' : f.toNat < n := by omega
  by_cases h2 : k = 2
  · rw [if_pos h2, if_pos h2]
    by_cases h3 : b.bg = true
    · rw [if_pos h3, if_pos h3]; exact ⟨rfl, R⟩
    · rw [if_neg h3, if_neg h3]; exact ⟨rfl, R.note hf'⟩
  rw [if_neg h2, if_neg h2]
  by_cases h3 : inB t 0 ((n : Int) - 1) = false
  · rw [if_pos h3, if_pos h3]; exact ⟨rfl, R⟩
  rw [if_neg h3, if_neg h3]
  have ht : 0 ≤ t ∧ t ≤ (n : Int) - 1 := inB_iff.1 (by simpa using h3)
  have ht' : t.toNat < n := by omega
  by_cases h4 : f = t
  · rw [if_pos h4, if_pos h4]; exact ⟨rfl, R⟩
  rw [if_neg h4, if_neg h4, R.wa _ _ hf' ht', R.mo]
  by_cases h5 : k = 0
  · rw [if_pos h5, if_pos h5]
    by_cases h6 : inB s 0 1000 = false
    · rw [if_pos h6, if_pos h6]; exact ⟨rfl, R⟩
    rw [if_neg h6, if_neg h6]
    by_cases h7 : b.mo.getD f.toNat 0 < s
    · rw [if_pos h7, if_pos h7]; exact ⟨rfl, R⟩
    rw [if_neg h7, if_neg h7]
    by_cases h8 : 8 ≤ (at3 b.wa f.toNat t.toNat).length
    · rw [if_pos h8, if_pos h8]; exact ⟨rfl, R⟩
    rw [if_neg h8, if_neg h8]
    exact ⟨rfl, R.ways hf' ht' _ _ _ ((List.length_set ..).trans R.bm) rfl rfl _⟩
  · rw [if_neg h5, if_neg h5]
    by_cases h6 : (at3 b.wa f.toNat t.toNat).length = 0
    · rw [if_pos h6, if_pos h6]; exact ⟨rfl, R⟩
    · rw [if_neg h6, if_neg h6]
      exact ⟨rfl, (R.ways hf' ht' _ _ _ R.bm rfl rfl _).come hf' ht' _ (m1 _ ht')⟩
theorem noteF_m1 {b : Bk} {n p : Nat} (hn : b.no.length = n) (h0 : 0 ≤ b.mo.getD p 0) (m1 : ∀ i, i < n → -1 ≤ b.no.getD i 0) : ∀ i, i < n → -1 ≤ (noteF b p).no.getD i 0 := by
  intro i hi
  by_cases hp : p < b.no.length
  · show -1 ≤ (b.no.set p (b.mo.getD p 0)).getD i 0
    rw [getD_setA _ _ _ _ _ hp]
    split
    · omega
    · exact m1 i hi
  · show -1 ≤ (b.no.set p (b.mo.getD p 0)).getD i 0
    rw [List.set_eq_of_length_le (by omega)]; exact m1 i hi
theorem doF_m1 {n : Nat} {b : Bk} {T : Int} (g : Gd n b T) (m1 : ∀ i, i < n → -1 ≤ b.no.getD i 0) (k f t s : Int) : ∀ i, i < n → -1 ≤ (doF b k f t s).2.no.getD i 0 := by
  unfold doF
  split
  · exact m1
  · rename_i h1
    have hf : 0 ≤ f ∧ f ≤ (b.mo.length : Int) - 1 := inB_iff.1 (by
      cases h : inB f 0 ((b.mo.length : Int) - 1)
      · exact absurd (.inr h) h1
      · rfl)
    rw [g.mo] at hf
    split
    · split
      · exact m1
      · exact noteF_m1 g.no (g.g.mo0 _ (by omega)) m1
    · split
      · exact m1
      · rename_i h3
        have ht : 0 ≤ t ∧ t ≤ (b.mo.length : Int) - 1 := inB_iff.1 (by simpa using h3)
        rw [g.mo] at ht
        split
        · exact m1
        · split
          · split
            · exact m1
            · split
              · exact m1
              · split <;> exact m1
          · split
            · exact m1
            · simp only
              unfold comeF
              split
              · simp only
                split
                · exact noteF_m1 (b := ⟨b.mo, _, b.no, b.he, b.ca, b.bg⟩) g.no (g.g.mo0 _ (by omega)) m1
                · exact m1
              · exact m1
theorem RB.rs {n : Nat} {b : Bk} {x : Xb} (R : RB n b x) : RS n b x := by
  obtain ⟨T, _, g⟩ := R.g
  exact ⟨g.mo, g.wa, g.he, g.ca, R.mo, R.no, R.wl, R.hl, R.cl, R.wa, R.he, R.ca, R.bg⟩
theorem RB.bks {n : Nat} {b : Bk} {x : Xb} (R : RB n b x) : BkS b := by
  obtain ⟨T, hT, g⟩ := R.g
  exact g.bks (by omega)
theorem split_ix {n m : Nat} (hn : 0 < n) (h : m < n * n) : ∃ i j, i < n ∧ j < n ∧ m = i * n + j :=
  ⟨m / n, m % n, Nat.div_lt_of_lt_mul h, Nat.mod_lt _ hn, by rw [Nat.mul_comm, Nat.div_add_mod]⟩
theorem len_ways {n : Nat} {b : Bk} {T : Int} (g : Gd n b T) {i j : Nat} (hi : i < n) (hj : j < n) : (at3 b.wa i j).length ≤ 9 := by
  have h1 := g.g.wl i j hi hj
  have h2 := g.g.cn i j hi hj
  split at h2 <;> omega
theorem RB.xok {n : Nat} {b : Bk} {x : Xb} (R : RB n b x) : XbOk x := by
  have S := R.bks
  obtain ⟨T, hT, g⟩ := R.g
  have ex : x.1.length = n := by rw [R.mo]; exact g.mo
  have n1 := g.n1
  refine ⟨by rw [ex]; exact g.n1, by rw [ex]; exact g.n5, by rw [ex, R.no]; exact g.no, by rw [ex]; exact R.wl, by rw [ex]; exact R.hl, by rw [ex]; exact R.cl, fun m hm => ?_, ?_, fun m hm => ?_, fun m v hm hv => ?_⟩
  · rw [ex] at hm
    obtain ⟨i, j, hi, hj, rfl⟩ := split_ix (by omega) hm
    rw [R.wa i j hi hj]
    have := len_ways g hi hj
    omega
  · rw [R.mo]; exact S.mb
  · rw [ex] at hm
    obtain ⟨i, j, hi, hj, rfl⟩ := split_ix (by omega) hm
    rw [R.ca i j hi hj]
    exact S.cb i j (by rw [g.mo]; exact hi) (by rw [g.mo]; exact hj)
  · rw [ex] at hm
    obtain ⟨i, j, hi, hj, rfl⟩ := split_ix (by omega) hm
    rw [R.wa i j hi hj] at hv
    exact S.vb i j v (by rw [g.mo]; exact hi) (by rw [g.mo]; exact hj) hv
theorem RB.step {n : Nat} {b : Bk} {x : Xb} (R : RB n b x) (m : Mv) : doE b m = (mvX x m).2 ∧ (stepB b m).mo = (mvX x m).1.1 ∧ RB n (stepB b m) (mvX x m).1 := by
  obtain ⟨T, hT, g⟩ := R.g
  obtain ⟨e, r⟩ := R.rs.move R.m1 m.1 m.2.1 m.2.2.1 m.2.2.2.1
  rw [doE_eq, mvX_eq]
  refine ⟨e, r.mo.symm, ⟨T, hT, g.move _ _ _ _⟩, r.mo, r.no, r.wl, r.hl, r.cl, r.wa, r.he, r.ca, r.bg, doF_m1 g R.m1 _ _ _ _⟩
theorem getD_nil2 {α : Type} (i j : Nat) (d : α) : (([] : List (List α)).getD i []).getD j d = d := by simp
theorem rep_at {α : Type} {n i j : Nat} (v d : α) (hi : i < n) (hj : j < n) : ((List.replicate n (List.replicate n v)).getD i []).getD j d = v := by
  rw [getD_rep n i _ _ hi, getD_rep n j _ _ hj]
theorem RB.new {mo : List Int} (h : newE mo = 0) : RB mo.length (newB mo) (newXq mo) := by
  rw [newXq_eq, if_pos h]
  refine ⟨⟨_, sumL_T h, Gd.new h⟩, rfl, rfl, List.length_replicate .., List.length_replicate .., List.length_replicate .., fun i j hi hj => ?_, fun i j hi hj => ?_, fun i j hi hj => ?_, rfl, fun i hi => ?_⟩
  · show (List.replicate (mo.length * mo.length) []).getD _ [] = _
    rw [getD_rep _ _ _ _ (ix hi hj)]
    exact (rep_at [] [] hi hj).symm
  · show (List.replicate (mo.length * mo.length) false).getD _ false = _
    rw [getD_rep _ _ _ _ (ix hi hj)]
    exact (rep_at false false hi hj).symm
  · show (List.replicate (mo.length * mo.length) 0).getD _ 0 = _
    rw [getD_rep _ _ _ _ (ix hi hj)]
    exact (rep_at 0 0 hi hj).symm
  · show -1 ≤ (List.replicate mo.length (-1)).getD i 0
    rw [getD_rep _ _ _ _ hi]; decide
theorem RB.all {n : Nat} {b : Bk} {x : Xb} (R : RB n b x) : allF b = allXq x := by
  obtain ⟨T, hT, g⟩ := R.g
  have ex : x.1.length = n := by rw [R.mo]; exact g.mo
  rw [allXq_eq, Bool.eq_iff_iff, g.all, allX_iff, ex]
  constructor
  · rintro ⟨h1, h2⟩ i hi
    refine ⟨by rw [R.no]; have := h1 i hi; omega, rowX_iff.2 fun j hj => ?_⟩
    rw [ex]
    rw [R.he i j hi hj]
    by_cases e : i = j
    · exact .inl e
    · exact .inr (h2 i j hi hj e)
  · intro h
    refine ⟨fun i hi => ?_, fun i j hi hj hn => ?_⟩
    · have h1 := (h i hi).1
      have h2 := R.m1 i hi
      rw [R.no] at h1
      omega
    · have h1 := rowX_iff.1 (h i hi).2 j hj
      rw [ex, R.he i j hi hj] at h1
      exact h1.resolve_left hn
theorem RB.way {n : Nat} {b : Bk} {x : Xb} (R : RB n b x) {p q : Nat} (hp : p < n) (hq : q < n) : wayF b (p : Int) (q : Int) = x.2.2.1.getD (p * n + q) [] := by
  obtain ⟨T, hT, g⟩ := R.g
  unfold wayF
  rw [R.wa p q hp hq, g.mo, if_pos, Int.toNat_natCast, Int.toNat_natCast]
  rw [Bool.and_eq_true]
  exact ⟨inB_iff.2 (by omega), inB_iff.2 (by omega)⟩
theorem getD_extA {α : Type} {l r : List α} (d : α) (hl : l.length = r.length) (h : ∀ i, i < l.length → l.getD i d = r.getD i d) : l = r := by
  apply List.ext_getElem?
  intro i
  by_cases hi : i < l.length
  · have := h i hi
    rw [List.getD_eq_getElem?_getD, List.getD_eq_getElem?_getD, List.getElem?_eq_getElem hi, List.getElem?_eq_getElem (by omega)] at this
    rw [List.getElem?_eq_getElem hi, List.getElem?_eq_getElem (by omega)]
    simpa using this
  · rw [List.getElem?_eq_none (by omega), List.getElem?_eq_none (by omega)]
theorem RB.came {n : Nat} {b : Bk} {x : Xb} (R : RB n b x) {p : Nat} (hp : p < n) : b.ca.getD p [] = (x.2.2.2.2.1.take (p * n + n)).drop (p * n) := by
  obtain ⟨T, hT, g⟩ := R.g
  have hl := g.ca.b p hp
  have hb : p * n + n ≤ n * n := by
    have : (p + 1) * n ≤ n * n := Nat.mul_le_mul_right n hp
    rw [Nat.add_mul] at this; omega
  have cl := R.cl
  refine getD_extA 0 (by rw [hl, List.length_drop, List.length_take]; omega) fun j hj => ?_
  rw [hl] at hj
  have := R.ca p j hp hj
  have e : (b.ca.getD p []).getD j 0 = at2 b.ca p j := rfl
  rw [e, ← this, List.getD_eq_getElem?_getD, List.getD_eq_getElem?_getD, List.getElem?_drop, List.getElem?_take, if_pos (by omega)]
end Go.Proofs.YtjgdpblaghhfhaaDoor.N

/- Banks: the program does what the reference does. -/
namespace Go.Proofs.YtjgdpblaghhfhaaDoor.N
open Go.Vc
theorem ndec {p : Prop} [d : Decidable p] (h : (!decide p) = true) : ¬ p := by
  cases d with
  | isTrue hp => exact absurd h (by simp [hp])
  | isFalse hn => exact hn
theorem in7 (n : Int) (h : 0 ≤ n ∧ n ≤ 7) : inK .i64 n := inK_i64.2 (by omega)
theorem doE_in (b : Bk) (m : Mv) : inK .i64 (doE b m) := by
  rw [doE_eq]
  refine in7 _ ?_
  unfold doF
  repeat' split
  all_goals (simp only; omega)
theorem newE_in (mo : List Int) : inK .i64 (newE mo) := by
  unfold newE
  split
  · exact inK_i64.2 (by decide)
  · split
    · exact inK_i64.2 (by decide)
    · split <;> exact inK_i64.2 (by decide)
theorem way_off1 (b : Bk) : wayF b (-1) 0 = [] := by
  unfold wayF
  rw [if_neg]
  intro h
  rw [Bool.and_eq_true] at h
  have := inB_iff.1 h.1
  omega
theorem way_off2 (b : Bk) {n : Nat} (h : b.mo.length = n) : wayF b 0 (n : Int) = [] := by
  unfold wayF
  rw [if_neg]
  intro h
  rw [Bool.and_eq_true] at h
  have := inB_iff.1 h.2
  omega
theorem plays_vc (mo : List Int) (mv : List Mv) (k : List Dat → Prop) (hl : mv.length ≤ maxLen) (hk : k [⟨.bool, true⟩]) : vcF ⟨Ey, [(7, cError), (21, cNewXq), (23, cMvX), (28, cAllXq), (25, cInts)], glK, [], [(22, oNew), (24, oDoq), (26, oMoney), (27, oNoted), (29, oWay)]⟩ (anPlays mo mv) (Tryd.f5.body.getD .skip) Tryd.f5.ntmps [(.tmp 4, .bool)] [⟨.sl I, mo⟩, ⟨.sl tMove, mv⟩] k := by
  rw [vcPlays]
  have hml : maxLen ≤ 9223372036854775807 := by decide
  have hn2 : nilL2 = [] := by unfold nilL2; rfl
  have h12 : ¬ (13 : Nat) < 12 := by decide
  have h14 : (13 : Nat) < 14 := by decide
  simp only [and_true, true_and, eq_self, implies_true, Int.toNat_natCast, decide_true, Bool.not_true, Bool.not_false, if_neg h12, if_pos h14, Bool.false_and, Bool.true_and, Bool.false_eq_true, false_implies, forall_const, reduceCtorEq]
  refine ⟨fun h0 => ⟨fun h => ?_, fun _ => ⟨⟨(0, newB mo, newXq mo), ⟨⟨by omega, by omega⟩, RB.new h0⟩, rfl, rfl, rfl, rfl, rfl, rfl, rfl, rfl⟩, fun ⟨i, b, x⟩ ⟨hi, R⟩ => ?_⟩⟩, fun h0 => ?_⟩
  · rw [h0] at h; exact absurd h (by decide)
  · obtain ⟨N, hN⟩ : ∃ N, N = mo.length := ⟨_, rfl⟩
    rw [← hN] at R
    have n5 : N ≤ 5 := by obtain ⟨_, _, g⟩ := R.g; exact g.n5
    obtain ⟨e1, e2, R'⟩ := R.step (mv.getD i (0, 0, 0, 0, ()))
    have bl : b.mo.length = N := R.rs.bm
    obtain ⟨bmo, bwa, bno, bhe, bca, bbg⟩ := b
    dsimp only at hi R e1 e2 R' bl ⊢
    rw [← hN]
    have fin : BkS ⟨bmo, bwa, bno, bhe, bca, bbg⟩ ∧ (decide (((wayF ⟨bmo, bwa, bno, bhe, bca, bbg⟩ (-1) 0).length : Int) = 0) = true → BkS ⟨bmo, bwa, bno, bhe, bca, bbg⟩ ∧ k [⟨.bool, decide (((wayF ⟨bmo, bwa, bno, bhe, bca, bbg⟩ 0 (N : Int)).length : Int) = 0)⟩]) ∧
        (decide (((wayF ⟨bmo, bwa, bno, bhe, bca, bbg⟩ (-1) 0).length : Int) = 0) = false → k [⟨.bool, false⟩]) := by
      rw [way_off1, way_off2 ⟨bmo, bwa, bno, bhe, bca, bbg⟩ bl]
      exact ⟨R.bks, fun _ => ⟨R.bks, hk⟩, fun h => absurd h (by decide)⟩
    refine ⟨fun h3 => ⟨fun h4 => ?_, fun _ => fin⟩, fun _ => fin⟩
    have h3 : i < mv.length := by have := of_decide_eq_true h3; omega
    have h4 : i < 100 := by have := of_decide_eq_true h4; omega
    have l5 : (stepB ⟨bmo, bwa, bno, bhe, bca, bbg⟩ (mv.getD i (0, 0, 0, 0, ()))).mo.length ≤ 5 := by rw [R'.rs.bm]; exact n5
    refine ⟨by omega, by omega, R.xok, by omega, by omega, R.xok, ⟨by omega, by omega, R.bks, doE_in _ _, fun h5 => ?_, fun _ => ⟨l5, ⟨by omega, by rw [← e2]; omega⟩, fun h6 => ?_, fun _ => ⟨(_, _), R', rfl, rfl, rfl, rfl, rfl, rfl, rfl⟩⟩⟩, fun ⟨b1, x1⟩ R1 => ?_⟩
    · exact absurd e1 (ndec h5)
    · exact absurd e2 (ndec h6)
    · have hall := R1.all
      have bl1 : b1.mo.length = N := R1.rs.bm
      have hlx : x1.2.2.1.length = N * N := R1.wl
      have hcx : x1.2.2.2.2.1.length = N * N := R1.cl
      have hca : b1.ca.length = N := R1.rs.sc.a
      have hwa : b1.wa.length = N := R1.rs.sw.a
      have hno : b1.no.length = N := by obtain ⟨_, _, g⟩ := R1.g; exact g.no
      have hxn : x1.2.1 = b1.no := R1.no
      have nn := nn25 n5
      have hgo : ∀ p, p ≤ N → ¬ p < N → inK .i64 ((i : Int) + 1) ∧ ∃ x4 : Nat × Bk × Xb, ((x4.1 ≤ mv.length ∧ x4.1 ≤ 100) ∧ RB N x4.2.1 x4.2.2) ∧ mv.length - x4.1 < mv.length - i ∧ (i : Int) + 1 = (x4.1 : Int) ∧ x1 = x4.2.2 ∧ b1.bg = x4.2.1.bg ∧ b1.mo = x4.2.1.mo ∧ b1.wa = x4.2.1.wa ∧ b1.no = x4.2.1.no ∧ b1.he = x4.2.1.he ∧ b1.ca = x4.2.1.ca :=
        fun p _ _ => ⟨inK_i64.2 (by omega), (i + 1, b1, x1), ⟨⟨h3, h4⟩, R1⟩, by simp only; omega, by simp, rfl, rfl, rfl, rfl, rfl, rfl, rfl⟩
      have hs : List.set b1.wa 0 (List.getD b1.wa 0 []) = b1.wa := set_getD_self _ _ _
      have hway := fun p q (hp : p < N) (hq : q < N) => R1.way hp hq
      have hlen := fun p q (hp : p < N) (hq : q < N) => R1.xok.wk (p * N + q) (by rw [show x1.1.length = N by rw [R1.mo]; exact bl1]; exact ix hp hq)
      have S1 := R1.bks
      have X1 := R1.xok
      have hcame := fun p (hp : p < N) => R1.came hp
      have hcb := R1.rs.sc.b
      clear R' e1 e2 l5 fin R
      obtain ⟨amo, awa, ano, ahe, aca, abg⟩ := b1
      dsimp only at hall bl1 hlx hcx hca hwa hno hxn hgo hs hway hlen S1 X1 hcame hcb ⊢
      refine ⟨S1, fun ha => ⟨⟨X1, fun h => ?_, fun _ => ⟨0, hn2⟩⟩, ⟨0, by omega, rfl⟩, fun p hp => ⟨fun h7 => ?_, fun h7 => hgo p hp (by have := of_decide_eq_false h7; omega)⟩⟩, fun ha => ⟨⟨X1, fun h => ?_, fun _ => ⟨⟨by omega, by rw [hxn]; omega⟩, fun h => ?_, fun _ => ⟨fun h => ?_, fun _ => ⟨0, trivial⟩⟩⟩⟩, ⟨0, by omega, rfl⟩, fun p hp => ⟨fun h7 => ?_, fun h7 => hgo p hp (by have := of_decide_eq_false h7; omega)⟩⟩⟩
      · rw [← hall, ha] at h; exact absurd h (by decide)
      · have h7 : p < N := by have := of_decide_eq_true h7; omega
        rw [hs]
        have hle : (p + 1) * N ≤ N * N := Nat.mul_le_mul_right N h7
        rw [Nat.add_mul] at hle
        have m1 : (p : Int) * (N : Int) = ((p * N : Nat) : Int) := (Int.natCast_mul p N).symm
        refine ⟨by omega, ⟨0, by omega, rfl⟩, fun q hq => ⟨fun h8 => ?_, fun h8 => ⟨inK_i64.2 (by omega), p + 1, by omega, by omega, by omega, rfl⟩⟩⟩
        have h8 : q < N := by have := of_decide_eq_true h8; omega
        have hw := hway p q h7 h8
        have hl9 := hlen p q h7 h8
        rw [ixI, hw, Int.toNat_natCast, m1]
        refine ⟨inK_i64.2 (by omega), inK_i64.2 (by omega), by omega, by rw [hlx]; omega, S1, ⟨by omega, by omega⟩, ⟨inK_i64.2 (by omega), inK_i64.2 (by omega), by omega, by rw [hlx]; omega⟩, fun h => ?_, fun _ => ⟨inK_i64.2 (by omega), q + 1, by omega, by omega, by omega⟩⟩
        exact absurd rfl (ndec h)
      · rw [← hall, ha] at h; exact absurd h (by decide)
      · exact absurd hxn.symm (ndec h)
      · exact absurd (by rw [hca]) (ndec h)
      · have h7 : p < N := by have := of_decide_eq_true h7; omega
        have hle : (p + 1) * N ≤ N * N := Nat.mul_le_mul_right N h7
        rw [Nat.add_mul] at hle
        have m1 : (p : Int) * (N : Int) = ((p * N : Nat) : Int) := (Int.natCast_mul p N).symm
        have hc := hcame p h7
        have hlp : (List.getD aca p []).length = N := hcb p h7
        have m2 : ((p * N : Nat) : Int) + (N : Int) = ((p * N + N : Nat) : Int) := by omega
        rw [m1, m2, Int.toNat_natCast, Int.toNat_natCast, ← hc]
        refine ⟨by omega, ⟨by omega, by omega, inK_i64.2 (by omega), inK_i64.2 (by omega), inK_i64.2 (by omega), by omega, by omega, by rw [hcx]; omega, by omega, by omega⟩, fun h => ?_, fun _ => ⟨⟨0, by omega, rfl⟩, fun q hq => ⟨fun h8 => ?_, fun h8 => ⟨inK_i64.2 (by omega), p + 1, by omega, by omega, by omega, set_getD_self _ _ _⟩⟩⟩⟩
        · exact absurd rfl (ndec h)
        · have h8 : q < N := by have := of_decide_eq_true h8; omega
          have hw := hway p q h7 h8
          have hl9 := hlen p q h7 h8
          rw [← m1, ixI, hw, Int.toNat_natCast, m1]
          refine ⟨inK_i64.2 (by omega), inK_i64.2 (by omega), by omega, by rw [hlx]; omega, S1, ⟨by omega, by omega⟩, ⟨inK_i64.2 (by omega), inK_i64.2 (by omega), by omega, by rw [hlx]; omega⟩, fun h => ?_, fun _ => ⟨inK_i64.2 (by omega), q + 1, by omega, by omega, by omega⟩⟩
          exact absurd rfl (ndec h)
  · refine ⟨fun _ => ⟨newE_in mo, hk⟩, fun h => ?_⟩
    have h : decide (newE mo = 0) = true := by simpa using h
    exact absurd (of_decide_eq_true h) h0
theorem okPlays : PlainOk Tryd.prog glK 5 (cdet [.sl I, .sl tMove] (fun (_ : List Int) (_ : List Mv) => True) (fun _ _ => [⟨.bool, true⟩])) := by
  refine plain_of (CxOk.mk' Ey_ok rfl mixed (gl := glK) (GOk.cons okError Tryd.func7 rfl rfl (GOk.cons okNewXq Tryd.func21 rfl rfl (GOk.cons okMvX Tryd.func23 rfl rfl (GOk.cons okAllXq Tryd.func28 rfl rfl (GOk.cons okInts Tryd.func25 rfl rfl GOk.nil))))) (GoOk.cons okNew Tryd.func22 rfl rfl (GoOk.cons okDoq Tryd.func24 rfl rfl (GoOk.cons okMoney Tryd.func26 rfl rfl (GoOk.cons okNoted Tryd.func27 rfl rfl (GoOk.cons okWay Tryd.func29 rfl rfl GoOk.nil))))) noIt) Tryd.func5 (c := Tryd.f5.body.getD .skip) (rvs := [(.tmp 4, .bool)]) (by kernel_rfl) (by kernel_rfl) (by kernel_rfl) ?_
  intro ds k ⟨hp, hk⟩ hwf
  obtain ⟨mo, mv, rfl, -⟩ := dest2 hp
  exact ⟨_, plays_vc mo mv k (wf2 hwf).2.1 hk⟩
theorem glOkN {W : World} (h : laidMetH Tryd.prog Rows.snapPlaysRow.laid W) : GlOk glK W fun b => b < W.heap.size := glE_of (.head _) h
end Go.Proofs.YtjgdpblaghhfhaaDoor.N
