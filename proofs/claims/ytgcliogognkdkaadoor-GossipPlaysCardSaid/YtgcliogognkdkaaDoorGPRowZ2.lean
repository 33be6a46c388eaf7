/- Own texts, merged: GM2, HDef, HV, HOk, HOk2, HM, As, Er, JDef, JV, JOk, JLaw. -/
import Derived.Test.YtgcliogognkdkaaDoorGPRowZ1
import Derived.Test.YtgcliogognkdkaaDoorChecked
import Derived.WalkKit
import Derived.LaidEql
import Derived.Stop.Asserts
import Derived.RowKitTokens
import Derived.Test.YtgcliogognkdkaaDoorVcQ
import Derived.Test.YtgcliogognkdkaaDoorVcPA
import Derived.Test.YtgcliogognkdkaaDoorRows
/- Nets: what holds of all that is written and told. -/
namespace Go.Proofs.YtgcliogognkdkaaDoor
open Go.Vc

/-! Of values that are joined the greatest are left. -/
def sumS : List Int → Int
  | [] => 0
  | x :: l => x + sumS l
theorem sumS_le : ∀ {a b : List Int}, a.length = b.length → (∀ i, i < a.length → a.getD i 0 ≤ b.getD i 0) → sumS a ≤ sumS b ∧ (sumS b ≤ sumS a → a = b)
  | [], [], _, _ => ⟨Int.le_refl _, fun _ => rfl⟩
  | [], _ :: _, h, _ => by simp at h
  | _ :: _, [], h, _ => by simp at h
  | x :: a, y :: b, h, hp => by
    have h0 : x ≤ y := by simpa using hp 0 (by simp)
    have ih := sumS_le (a := a) (b := b) (by simpa using h) fun i hi => by simpa using hp (i + 1) (by simp; omega)
    unfold sumS
    refine ⟨by omega, fun hs => ?_⟩
    have : x = y := by omega
    rw [this, ih.2 (by omega)]
theorem saw_sum {v w : Va} (hl : v.1.length = w.1.length) (h : sawB w v = true) : sumS v.1 ≤ sumS w.1 ∧ (sumS w.1 ≤ sumS v.1 → v.1 = w.1) :=
  sumS_le hl fun i hi => sawB_all.1 h i (by omega)
theorem ex_max {α : Type} (f : α → Int) : ∀ (l : List α), l ≠ [] → ∃ m ∈ l, ∀ x ∈ l, f x ≤ f m
  | [], h => absurd rfl h
  | [a], _ => ⟨a, by simp, fun x hx => by rw [List.mem_singleton] at hx; subst hx; exact Int.le_refl _⟩
  | a :: b :: l, _ => by
    obtain ⟨m, hm, h⟩ := ex_max f (b :: l) (by simp)
    by_cases hc : f m ≤ f a
    · refine ⟨a, List.mem_cons_self .., fun x hx => ?_⟩
      rcases List.mem_cons.1 hx with e | e
      · subst e; exact Int.le_refl _
      · exact Int.le_trans (h x e) hc
    · refine ⟨m, List.mem_cons_of_mem _ hm, fun x hx => ?_⟩
      rcases List.mem_cons.1 hx with e | e
      · subst e; omega
      · exact h x e
theorem dom_mrg {n : Nat} {all : List Va} (hn : ∀ v ∈ all, v.1.length = n) (hF : ∀ v ∈ all, ∀ w ∈ all, v.1 = w.1 → v = w) {v : Va} (hv : v ∈ all) : ∃ w ∈ mrgV all, sawB w v = true := by
  obtain ⟨m, hm, hmax⟩ := ex_max (fun x : Va => sumS x.1) (all.filter fun w => sawB w v) (fun e => by
    have : v ∈ all.filter fun w => sawB w v := List.mem_filter.2 ⟨hv, saw_refl v⟩
    rw [e] at this; cases this)
  obtain ⟨hma, hms⟩ := List.mem_filter.1 hm
  refine ⟨m, (mem_mrgV hn hF).2 ⟨hma, fun x hx hs => ?_⟩, hms⟩
  have hxv := saw_trans (by rw [hn x hx, hn m hma]; exact Nat.le_refl _) hs hms
  have h1 := hmax x (List.mem_filter.2 ⟨hx, hxv⟩)
  exact hF x hx m hma ((saw_sum (by rw [hn x hx, hn m hma]) hs).2 h1).symm

/-! What a write has seen. -/
theorem maxU_get (cur s : List Int) {q : Nat} (hq : q < cur.length) : ∀ j, (maxU cur s j).getD q 0 = if q < j then max (cur.getD q 0) (s.getD q 0) else cur.getD q 0
  | 0 => by rw [if_neg (by omega)]; rfl
  | j + 1 => by
    have ih := fun {q} (hq : q < cur.length) => maxU_get cur s hq j
    unfold maxU
    by_cases hj : j < cur.length
    · rw [getD_setL _ _ _ _ _ (by rw [maxU_len]; exact hj), ih hj, if_neg (Nat.lt_irrefl _)]
      by_cases e : q = j
      · subst e; rw [if_pos rfl, if_pos (by omega)]
      · rw [if_neg e, ih hq]
        by_cases h : q < j
        · rw [if_pos h, if_pos (by omega)]
        · rw [if_neg h, if_neg (by omega)]
    · rw [List.set_eq_of_length_le (by rw [maxU_len]; omega), ih hq, if_pos (by omega), if_pos (by omega)]
theorem accU_succ {vals : List Va} {n : Nat} (hn : ∀ v ∈ vals, v.1.length = n) {q i : Nat} (hq : q < n) (hi : i < vals.length) : (accU vals n (i + 1)).getD q 0 = max ((accU vals n i).getD q 0) ((vals.getD i va0).1.getD q 0) := by
  show (maxU (accU vals n i) (vals.getD i va0).1 (vals.getD i va0).1.length).getD q 0 = _
  rw [maxU_get _ _ (by rw [accU_len]; exact hq), if_pos (by rw [hn _ (getD_memL hi)]; exact hq)]
theorem accU_ge {vals : List Va} {n : Nat} (hn : ∀ v ∈ vals, v.1.length = n) {q : Nat} (hq : q < n) : ∀ i, i ≤ vals.length → 0 ≤ (accU vals n i).getD q 0 ∧ ∀ j, j < i → (vals.getD j va0).1.getD q 0 ≤ (accU vals n i).getD q 0
  | 0, _ => by
    refine ⟨?_, fun j hj => by omega⟩
    unfold accU
    rw [List.getD_eq_getElem?_getD, List.getElem?_replicate, if_pos hq]; exact Int.le_refl _
  | i + 1, hi => by
    obtain ⟨h1, h2⟩ := accU_ge hn hq i (by omega)
    rw [accU_succ hn hq (by omega)]
    refine ⟨by omega, fun j hj => ?_⟩
    by_cases e : j = i
    · subst e; omega
    · have := h2 j (by omega); omega
theorem accU_at {vals : List Va} {n : Nat} (hn : ∀ v ∈ vals, v.1.length = n) {q : Nat} (hq : q < n) : ∀ i, i ≤ vals.length → (accU vals n i).getD q 0 = 0 ∨ ∃ v ∈ vals, v.1.getD q 0 = (accU vals n i).getD q 0
  | 0, _ => by
    refine .inl ?_
    unfold accU
    rw [List.getD_eq_getElem?_getD, List.getElem?_replicate, if_pos hq]; rfl
  | i + 1, hi => by
    rw [accU_succ hn hq (by omega)]
    rcases Int.le_total ((accU vals n i).getD q 0) ((vals.getD i va0).1.getD q 0) with h | h
    · exact .inr ⟨_, getD_memL (d := va0) (i := i) (by omega), by omega⟩
    · rw [Int.max_eq_left h]; exact accU_at hn hq i (by omega)
theorem accU_mem {vals : List Va} {n : Nat} (hn : ∀ v ∈ vals, v.1.length = n) {q : Nat} (hq : q < n) {v : Va} (hv : v ∈ vals) : v.1.getD q 0 ≤ (accU vals n vals.length).getD q 0 := by
  obtain ⟨j, hj⟩ := List.getElem?_of_mem hv
  have hjl := (List.getElem?_eq_some_iff.1 hj).1
  have := (accU_ge hn hq vals.length (Nat.le_refl _)).2 j hjl
  have ew : vals.getD j va0 = v := by rw [List.getD_eq_getElem?_getD, hj]; rfl
  rwa [ew] at this

/-! The invariant: H k p v says that the value was written by p, at some time, at the key. -/
structure NInv (n : Nat) (W : Nat → Int → Prop) (H : Nat → Nat → Va → Prop) (t : Net) : Prop where
  len : t.1.length = n
  lo : 1 ≤ n
  hi : n ≤ 5
  wr : t.2.1.length = n
  row : ∀ r ∈ t.1, List.length r = 4
  cnt : ∀ i, i < n → 0 ≤ t.2.1.getD i 0 ∧ t.2.1.getD i 0 ≤ 60
  mem : ∀ i k v, v ∈ vAt t i k → ∃ p, H k p v
  sv : ∀ i k, SV' (vAt t i k)
  anti : ∀ i k v w, v ∈ vAt t i k → w ∈ vAt t i k → sawB v w = true → v = w
  hp : ∀ k p v, H k p v → p < n ∧ 1 ≤ v.1.getD p 0
  hl : ∀ k p v, H k p v → v.1.length = n
  hb : ∀ k p v, H k p v → ∀ q, q < n → 0 ≤ v.1.getD q 0 ∧ v.1.getD q 0 ≤ t.2.1.getD q 0
  hW : ∀ k p v, H k p v → W k v.2.1
  hc : ∀ k p v p' w, H k p v → H k p' w → v.1.getD p 0 ≤ w.1.getD p 0 → sawB w v = true
  hf : ∀ k p v p' w, H k p v → H k p' w → v.1 = w.1 → v = w
  hd : ∀ k p v, H k p v → ∃ w ∈ vAt t p k, sawB w v = true
section
variable {n : Nat} {W : Nat → Int → Prop} {H : Nat → Nat → Va → Prop} {t : Net}
theorem NInv.ln (I : NInv n W H t) {i k : Nat} {v : Va} (hv : v ∈ vAt t i k) : v.1.length = n := by
  obtain ⟨p, hp⟩ := I.mem i k v hv; exact I.hl k p v hp
theorem NInv.few (I : NInv n W H t) (i k : Nat) : (vAt t i k).length ≤ n := by
  have hw : ∃ f : Va → Nat, ∀ v ∈ vAt t i k, H k (f v) v := by
    refine ⟨fun v => if h : v ∈ vAt t i k then (I.mem i k v h).choose else 0, fun v hv => ?_⟩
    show H k (if h : v ∈ vAt t i k then (I.mem i k v h).choose else 0) v
    rw [dif_pos hv]; exact (I.mem i k v hv).choose_spec
  obtain ⟨f, hf⟩ := hw
  have hnd : ((vAt t i k).map f).Nodup := by
    refine List.pairwise_map.2 ((I.sv i k).imp_of_mem fun {a b} ha hb hab e => ?_)
    have h1 := hf a ha
    have h2 := hf b hb
    rw [← e] at h2
    have hne : a ≠ b := fun e => by subst e; rw [lexL_zero.2 rfl] at hab; exact absurd hab (by decide)
    rcases Int.le_total (a.1.getD (f a) 0) (b.1.getD (f a) 0) with hq | hq
    · exact hne (I.anti i k b a hb ha (I.hc k _ _ _ _ h1 h2 hq)).symm
    · exact hne (I.anti i k a b ha hb (I.hc k _ _ _ _ h2 h1 hq))
  have := hnd.length_le_of_subset (l₂ := List.range n) fun x hx => by
    obtain ⟨v, hv, rfl⟩ := List.mem_map.1 hx
    exact List.mem_range.2 (I.hp k _ v (hf v hv)).1
  rwa [List.length_map, List.length_range] at this
theorem mem_vAt (hr : ∀ r ∈ t.1, List.length r = 4) {r : List (List Va)} {l : List Va} (h1 : r ∈ t.1) (h2 : l ∈ r) : ∃ i k, l = vAt t i k := by
  obtain ⟨i, hi⟩ := List.getElem?_of_mem h1
  obtain ⟨k, hk⟩ := List.getElem?_of_mem h2
  refine ⟨i, k, ?_⟩
  unfold vAt
  rw [List.getD_eq_getElem?_getD (l := t.1), hi, Option.getD_some, List.getD_eq_getElem?_getD, hk, Option.getD_some]
theorem NInv.sh (I : NInv n W H t) : NetSh t where
  wr := by rw [I.wr, I.len]
  lo := by rw [I.len]; exact I.lo
  hi := by rw [I.len]; exact I.hi
  row := I.row
  len := fun r hr l hl => by
    obtain ⟨i, k, rfl⟩ := mem_vAt I.row hr hl
    have := I.few i k; have := I.hi; omega
  seen := fun r hr l hl v hv => by
    obtain ⟨i, k, rfl⟩ := mem_vAt I.row hr hl
    rw [I.ln hv, I.len]
  cnt := fun i hi => I.cnt i (by rw [← I.wr]; exact hi)
theorem NInv.nlen (I : NInv n W H t) : NetLen t :=
  ⟨fun r hr => ⟨I.row r hr, fun l hl => ⟨I.sh.len r hr l hl, fun v hv => by rw [I.sh.seen r hr l hl v hv, I.len]; have := I.hi; omega⟩⟩, by rw [I.len]; have := I.hi; omega⟩
theorem NInv.init (W : Nat → Int → Prop) (h1 : 1 ≤ n) (h5 : n ≤ 5) : NInv n W (fun _ _ _ => False) (newF n) := by
  have hv : ∀ i k, vAt (newF n) i k = [] := fun i k => by
    have hrow : (List.replicate n (List.replicate 4 ([] : List Va))).getD i (List.replicate 4 []) = List.replicate 4 [] := by
      rcases getD_memD (l := List.replicate n (List.replicate 4 ([] : List Va))) (i := i) (d := List.replicate 4 []) with h | ⟨h, -⟩
      · exact (List.mem_replicate.1 h).2
      · exact h
    unfold vAt newF
    rw [hrow]
    rcases getD_memD (l := (List.replicate 4 [] : List (List Va))) (i := k) (d := ([] : List Va)) with h2 | ⟨h2, -⟩
    · exact (List.mem_replicate.1 h2).2
    · exact h2
  exact {
    len := List.length_replicate, lo := h1, hi := h5, wr := List.length_replicate
    row := fun r hr => by rw [(List.mem_replicate.1 hr).2]; exact List.length_replicate
    cnt := fun i hi => by
      have e : (newF n).2.1.getD i 0 = 0 := by
        unfold newF
        rw [List.getD_eq_getElem?_getD, List.getElem?_replicate, if_pos hi]; rfl
      rw [e]; decide
    mem := fun i k v h => by rw [hv] at h; cases h
    sv := fun i k => by rw [hv]; exact List.Pairwise.nil
    anti := fun i k v w h => by rw [hv] at h; cases h
    hp := fun _ _ _ h => h.elim, hl := fun _ _ _ h => h.elim, hb := fun _ _ _ h => h.elim, hW := fun _ _ _ h => h.elim
    hc := fun _ _ _ _ _ h => h.elim, hf := fun _ _ _ _ _ h => h.elim, hd := fun _ _ _ h => h.elim }
theorem NInv.sync (I : NInv n W H t) (a b : Int) : NInv n W H (syncT t a b) := by
  unfold syncT
  by_cases hne : ¬ syncE t a b = 0
  · rw [if_neg hne]; exact I
  have h0 : syncE t a b = 0 := Decidable.of_not_not hne
  rw [if_pos h0]
  obtain ⟨ha, hb, hab⟩ : inNet t a 0 = true ∧ inNet t b 0 = true ∧ a ≠ b := by
    unfold syncE at h0
    cases ha : inNet t a 0 <;> cases hb : inNet t b 0 <;> simp [ha, hb] at h0
    exact ⟨rfl, rfl, h0⟩
  obtain ⟨⟨a0, a1⟩, -⟩ := inNet_iff.1 ha
  obtain ⟨⟨b0, b1⟩, -⟩ := inNet_iff.1 hb
  have hbl : b.toNat < t.1.length := by omega
  have hv := fun i j => vAt_sync I.row (a := a) (b := b) (by omega) hbl i j 4 (Nat.le_refl _)
  have hln : ∀ k, ∀ v ∈ vAt t b.toNat k ++ vAt t a.toNat k, v.1.length = n := fun k v h => (List.mem_append.1 h).elim (fun h => I.ln h) fun h => I.ln h
  have hmm : ∀ k, ∀ v ∈ vAt t b.toNat k ++ vAt t a.toNat k, ∃ p, H k p v := fun k v h => (List.mem_append.1 h).elim (fun h => I.mem _ _ _ h) fun h => I.mem _ _ _ h
  have hF : ∀ k, ∀ v ∈ vAt t b.toNat k ++ vAt t a.toNat k, ∀ w ∈ vAt t b.toNat k ++ vAt t a.toNat k, v.1 = w.1 → v = w := fun k v h w h' e => by
    obtain ⟨p, hp⟩ := hmm k v h
    obtain ⟨p', hp'⟩ := hmm k w h'
    exact I.hf k p v p' w hp hp' e
  exact {
    len := by rw [syncU_len]; exact I.len
    lo := I.lo, hi := I.hi
    wr := by rw [syncU_wr]; exact I.wr
    row := syncU_rows I.row hbl 4
    cnt := by rw [syncU_wr]; exact I.cnt
    mem := fun i k v h => by
      rw [hv] at h
      split at h
      · exact hmm k v ((mem_mrgV (hln k) (hF k)).1 h).1
      · exact I.mem i k v h
    sv := fun i k => by
      rw [hv]; split
      · exact ss_mrgV _
      · exact I.sv i k
    anti := fun i k v w h h' hs => by
      rw [hv] at h h'
      split at h
      · rename_i hc
        rw [if_pos hc] at h'
        exact ((mem_mrgV (hln k) (hF k)).1 h').2 v ((mem_mrgV (hln k) (hF k)).1 h).1 hs
      · rename_i hc
        rw [if_neg hc] at h'
        exact I.anti i k v w h h' hs
    hp := I.hp, hl := I.hl
    hb := by rw [syncU_wr]; exact I.hb
    hW := I.hW, hc := I.hc, hf := I.hf
    hd := fun k p v h => by
      obtain ⟨w, hw, hs⟩ := I.hd k p v h
      rw [hv]
      split
      · rename_i hc
        rw [hc.1] at hw
        obtain ⟨u, hu, hus⟩ := dom_mrg (hln k) (hF k) (List.mem_append_left _ hw)
        exact ⟨u, hu, saw_trans (by rw [hln k u ((mem_mrgV (hln k) (hF k)).1 hu).1, I.ln hw]; exact Nat.le_refl _) hus hs⟩
      · exact ⟨w, hw, hs⟩ }
theorem NInv.write (I : NInv n W H t) (p q v : Int) (hw : writeE t p q v = 0 → W q.toNat v) : ∃ H', NInv n W H' (writeT t p q v) := by
  unfold writeT
  by_cases hne : ¬ writeE t p q v = 0
  · rw [if_neg hne]; exact ⟨H, I⟩
  have h0 : writeE t p q v = 0 := Decidable.of_not_not hne
  have hW0 := hw h0
  rw [if_pos h0]
  obtain ⟨hi, h60⟩ : inNet t p q = true ∧ ¬ t.2.1.getD p.toNat 0 = 60 := by
    unfold writeE at h0
    split at h0
    · rename_i h
      rw [Bool.and_eq_true] at h
      refine ⟨h.1, fun e => ?_⟩
      rw [if_pos e] at h0; cases h0
    · cases h0
  obtain ⟨⟨p0, p1⟩, q0, q1⟩ := inNet_iff.1 hi
  have hpl : p.toNat < t.1.length := by omega
  have hpn : p.toNat < n := by rw [← I.len]; exact hpl
  have hrow : (t.1.getD p.toNat (List.replicate 4 [])).length = 4 := I.row _ (getD_memL hpl)
  have hv := fun i j => vAt_set (t := t) (p := p) (k := q) (l := [newV t p q v]) (w := upW t p) hpl (by rw [hrow]; omega) i j
  have hvals : valsAt t p q = vAt t p.toNat q.toNat := rfl
  have hn : ∀ w ∈ vAt t p.toNat q.toNat, w.1.length = n := fun w h => I.ln h
  have hup : ∀ i, i < n → (upW t p).getD i 0 = if i = p.toNat then t.2.1.getD p.toNat 0 + 1 else t.2.1.getD i 0 := fun i hi => by
    unfold upW; rw [getD_setL _ _ _ _ _ (by rw [I.wr]; exact hpn)]
  have hnl : (newV t p q v).1.length = n := by
    show (List.set _ _ _).length = n
    rw [List.length_set, accU_len, I.len]
  have hnv : ∀ i, i < n → (newV t p q v).1.getD i 0 = if i = p.toNat then t.2.1.getD p.toNat 0 + 1 else (accU (vAt t p.toNat q.toNat) n (vAt t p.toNat q.toNat).length).getD i 0 := fun i hi => by
    show (List.set _ _ _).getD i 0 = _
    rw [getD_setL _ _ _ _ _ (by rw [accU_len, I.len]; exact hpn), hup _ hpn, if_pos rfl, hvals, I.len]
  have hacc : ∀ i, i < n → 0 ≤ (accU (vAt t p.toNat q.toNat) n (vAt t p.toNat q.toNat).length).getD i 0 ∧ (accU (vAt t p.toNat q.toNat) n (vAt t p.toNat q.toNat).length).getD i 0 ≤ t.2.1.getD i 0 := fun i hi => by
    refine ⟨(accU_ge hn hi _ (Nat.le_refl _)).1, ?_⟩
    rcases accU_at hn hi _ (Nat.le_refl _) with e | ⟨w, hw, e⟩
    · rw [e]; exact (I.cnt i hi).1
    · rw [← e]
      obtain ⟨p', hp'⟩ := I.mem _ _ _ hw
      exact (I.hb _ _ _ hp' i hi).2
  have hge : ∀ i, i < n → (accU (vAt t p.toNat q.toNat) n (vAt t p.toNat q.toNat).length).getD i 0 ≤ (newV t p q v).1.getD i 0 := fun i hi => by
    rw [hnv i hi]
    have := hacc i hi
    split
    · rename_i e; subst e; omega
    · omega
  have hover : ∀ w x, w ∈ vAt t p.toNat q.toNat → x.1.length = n → sawB w x = true → sawB (newV t p q v) x = true := fun w x hw hx hs => by
    refine sawB_all.2 fun i hi => ?_
    rw [hnl] at hi
    have h1 := sawB_all.1 hs i (by rw [hn w hw]; exact hi)
    have h2 := accU_mem hn hi hw
    have h3 := hge i hi
    omega
  have hupp : (upW t p).getD p.toNat 0 = t.2.1.getD p.toNat 0 + 1 := by rw [hup _ hpn, if_pos rfl]
  have hnvp : (newV t p q v).1.getD p.toNat 0 = t.2.1.getD p.toNat 0 + 1 := by rw [hnv _ hpn, if_pos rfl]
  have hcp := I.cnt p.toNat hpn
  have oldnew : ∀ p' x, H q.toNat p' x → x.1.getD p' 0 ≤ (newV t p q v).1.getD p' 0 → sawB (newV t p q v) x = true := fun p' x hx hle => by
    by_cases e : p' = p.toNat
    · subst e
      obtain ⟨w, hw, hs⟩ := I.hd _ _ _ hx
      exact hover w x hw (I.hl _ _ _ hx) hs
    · obtain ⟨l1, l2⟩ := I.hp _ _ _ hx
      rw [hnv _ l1, if_neg e] at hle
      rcases accU_at hn l1 _ (Nat.le_refl _) with e2 | ⟨w, hw, e2⟩
      · omega
      · obtain ⟨p'', hp''⟩ := I.mem _ _ _ hw
        exact hover w x hw (I.hl _ _ _ hx) (I.hc _ _ _ _ _ hx hp'' (by omega))
  refine ⟨fun k' p' v' => H k' p' v' ∨ (k' = q.toNat ∧ p' = p.toNat ∧ v' = newV t p q v), ?_⟩
  exact {
    len := by show (setAt t p q _).length = n; rw [setAt_len]; exact I.len
    lo := I.lo, hi := I.hi
    wr := by show (upW t p).length = n; unfold upW; rw [List.length_set]; exact I.wr
    row := setAt_rows I.row hpl
    cnt := fun i hi => by
      show 0 ≤ (upW t p).getD i 0 ∧ (upW t p).getD i 0 ≤ 60
      rw [hup i hi]
      have := I.cnt i hi
      split <;> omega
    mem := fun i k x h => by
      rw [hv] at h
      split at h
      · rename_i hc
        rw [List.mem_singleton] at h
        exact ⟨p.toNat, .inr ⟨hc.2, rfl, h⟩⟩
      · obtain ⟨p', hp'⟩ := I.mem i k x h
        exact ⟨p', .inl hp'⟩
    sv := fun i k => by
      rw [hv]; split
      · exact List.pairwise_singleton ..
      · exact I.sv i k
    anti := fun i k x y h h' hs => by
      rw [hv] at h h'
      split at h
      · rename_i hc
        rw [if_pos hc] at h'
        rw [List.mem_singleton] at h h'
        rw [h, h']
      · rename_i hc
        rw [if_neg hc] at h'
        exact I.anti i k x y h h' hs
    hp := fun k p' x h => by
      rcases h with h | ⟨-, rfl, rfl⟩
      · exact I.hp k p' x h
      · exact ⟨hpn, by omega⟩
    hl := fun k p' x h => by
      rcases h with h | ⟨-, -, rfl⟩
      · exact I.hl k p' x h
      · exact hnl
    hb := fun k p' x h i hi => by
      show 0 ≤ x.1.getD i 0 ∧ x.1.getD i 0 ≤ (upW t p).getD i 0
      rw [hup i hi]
      rcases h with h | ⟨-, -, rfl⟩
      · have := I.hb k p' x h i hi
        split
        · rename_i e; subst e; omega
        · exact this
      · rw [hnv i hi]
        have := hacc i hi
        split
        · omega
        · exact this
    hW := fun k p' x h => by
      rcases h with h | ⟨rfl, -, rfl⟩
      · exact I.hW k p' x h
      · exact hW0
    hc := fun k p' x p'' y h h' hle => by
      rcases h with h | ⟨rfl, rfl, rfl⟩
      · rcases h' with h' | ⟨rfl, rfl, rfl⟩
        · exact I.hc k p' x p'' y h h' hle
        · exact oldnew p' x h hle
      · rcases h' with h' | ⟨-, -, rfl⟩
        · have := (I.hb _ _ _ h' p.toNat hpn).2
          omega
        · exact saw_refl _
    hf := fun k p' x p'' y h h' e => by
      rcases h with h | ⟨-, -, rfl⟩
      · rcases h' with h' | ⟨-, -, rfl⟩
        · exact I.hf k p' x p'' y h h' e
        · have := (I.hb _ _ _ h p.toNat hpn).2
          rw [e] at this; omega
      · rcases h' with h' | ⟨-, -, rfl⟩
        · have := (I.hb _ _ _ h' p.toNat hpn).2
          rw [← e] at this; omega
        · rfl
    hd := fun k p' x h => by
      rcases h with h | ⟨rfl, rfl, rfl⟩
      · obtain ⟨w, hw, hs⟩ := I.hd k p' x h
        rw [hv]
        split
        · rename_i hc
          rw [hc.1, hc.2] at hw
          exact ⟨_, List.mem_singleton.2 rfl, hover w x hw (I.hl _ _ _ h) hs⟩
        · exact ⟨w, hw, hs⟩
      · rw [hv, if_pos ⟨rfl, rfl⟩]
        exact ⟨_, List.mem_singleton.2 rfl, saw_refl _⟩ }
end
end Go.Proofs.YtgcliogognkdkaaDoor

/- Nets: what the reference's functions answer. -/
namespace Go.Proofs.YtgcliogognkdkaaDoor
open Go.Vc
abbrev tRN : Ty := .pr I (.pr (.sl (.sl tV)) (.pr (.sl I) .un))
abbrev RN := Int × List (List Va) × List Int × Unit
def Eh (l : List Nat) : Env := { Eg with tys := (57, tRN) :: Eg.tys, sa := l }
theorem Eh_ok (l : List Nat) : EnvOk Tryd.prog (Eh l) := EnvOk.of_list (by kernel_rfl) (by kernel_rfl) (by kernel_rfl)
def rn0 : RN := (0, [], [], ())
def cNewR : Ctr := cdet [I] (fun (n : Int) => (0 ≤ n ∧ n ≤ 5) ∧ True) (fun (n : Int) => [⟨tRN, ((n, List.replicate (n * 4).toNat [], List.replicate n.toNat 0, ()) : RN)⟩])
def cRSaw : Ctr := cdet [tV, tV] (fun v w => v.1.length ≤ w.1.length ∧ True) (fun v w => [⟨.bool, sawB v w⟩])
def anRSaw (v w : Va) : Ann := [joinAll, loopAt 2 Nat [] (fun st i => St.at (St.only st [2, 3]) [(5, .d I (i : Int))]) (fun _ i => i ≤ v.1.length ∧ sawF v.1 w.1 i = true) (fun i => v.1.length - i)]
def befB (v w : Va) : Bool := decide (lexL v.1 w.1 < 0)
def cRBef : Ctr := cdet [tV, tV] (fun v w => v.1.length = w.1.length ∧ True) (fun v w => [⟨.bool, befB v w⟩])
def anRBef (v w : Va) : Ann := [joinAll, loopAt 2 Nat [] (fun st i => St.at (St.only st [2, 3]) [(5, .d I (i : Int))]) (fun _ i => i ≤ v.1.length ∧ v.1.take i = w.1.take i) (fun i => v.1.length - i)]
def loA (v : Va) (u : Va) : Bool := !sawB v u && befB u v
def hiA (v : Va) (u : Va) : Bool := !sawB v u && befB v u
def anyS (l : List Va) (v : Va) : Bool := l.any fun u => sawB u v
def keepF (l : List Va) (v : Va) : List Va := if anyS l v = true then l else l.filter (loA v) ++ [v] ++ l.filter (hiA v)
def cKeep : Ctr := cdet [.sl tV, tV] (fun (l : List Va) (v : Va) => (l.length ≤ 1000 ∧ ∀ u ∈ l, u.1.length = v.1.length) ∧ True) (fun l v => [⟨.sl tV, keepF l v⟩])
def anKeep (l : List Va) (v : Va) : Ann := [joinAll,
  loopAt 2 Nat [] (fun st i => St.at (St.only st [0, 3]) [(5, .d I (i : Int))]) (fun _ i => i ≤ l.length ∧ anyS (l.take i) v = false) (fun i => l.length - i),
  loopAt 8 Nat [(6, 84, tV)] (fun st i => { St.at (St.only st [0, 3, 6]) [(7, .d I (i : Int))] with ob := [.var 84 tV v, .row 84 tV ((l.take i).filter (loA v))] }) (fun _ i => i ≤ l.length ∧ anyS l v = false) (fun i => l.length - i),
  loopAt 14 Nat [] (fun st i => { St.at (St.only st [0, 3]) [(6, .os 1), (8, .d I (i : Int))] with ob := [.var 84 tV v, .row 84 tV (l.filter (loA v) ++ [v] ++ (l.take i).filter (hiA v))] }) (fun _ i => i ≤ l.length ∧ anyS l v = false) (fun i => l.length - i)]
def cRow : Ctr := cdet [.sl (.sl tV), I, .sl tV] (fun (l : List (List Va)) (i : Int) (_ : List Va) => ((0 ≤ i ∧ i < (l.length : Int)) ∧ l.length ≤ 1000) ∧ True) (fun (l : List (List Va)) (i : Int) (x : List Va) => [⟨.sl (.sl tV), (l.take i.toNat ++ [x] ++ l.drop (i.toNat + 1) : List (List Va))⟩])
structure RSh (t : RN) : Prop where
  lo : 1 ≤ t.1
  hi : t.1 ≤ 5
  has : (t.2.1.length : Int) = t.1 * 4
  wr : (t.2.2.1.length : Int) = t.1
  len : ∀ i, (t.2.1.getD i []).length ≤ 1000
  seen : ∀ i, ∀ v ∈ t.2.1.getD i [], (v.1.length : Int) = t.1
  cnt : ∀ i, i < t.2.2.1.length → 0 ≤ t.2.2.1.getD i 0 ∧ t.2.2.1.getD i 0 ≤ 60
def rWriteE (t : RN) (p q v : Int) : Int := if (inB p 0 (t.1 - 1) && (inB q 0 3 && inB v 0 1000000)) = true then (if 60 ≤ t.2.2.1.getD p.toNat 0 then 4 else 0) else 1
def mxF (l : List Va) (i : Nat) : Nat → Int
  | 0 => 0
  | k + 1 => if mxF l i k < (l.getD k va0).1.getD i 0 then (l.getD k va0).1.getD i 0 else mxF l i k
def rUp (t : RN) (p : Int) : List Int := t.2.2.1.set p.toNat (t.2.2.1.getD p.toNat 0 + 1)
def rAt (t : RN) (p q : Int) : List Va := t.2.1.getD (p * 4 + q).toNat []
def seenU (t : RN) (p q : Int) (i : Nat) : List Int := (List.range i).map fun (j : Nat) => if (j : Int) = p then (rUp t p).getD p.toNat 0 else mxF (rAt t p q) j (rAt t p q).length
def setR (l : List (List Va)) (i : Int) (x : List Va) : List (List Va) := l.take i.toNat ++ [x] ++ l.drop (i.toNat + 1)
def rWriteT (t : RN) (p q v : Int) : RN := if rWriteE t p q v = 0 then (t.1, setR t.2.1 (p * 4 + q) [(seenU t p q t.1.toNat, v, ())], rUp t p, ()) else t
def cRWrite : Ctr := cdet [tRN, I, I, I] (fun (t : RN) (_ _ _ : Int) => RSh t ∧ True) (fun (t : RN) (p q v : Int) => [⟨tRN, rWriteT t p q v⟩, ⟨I, rWriteE t p q v⟩])
def anRWrite (t : RN) (p q v : Int) : Ann := [joinAll, freezeAt 8 [10], freezeAt 23 [11],
  loopAt 11 Nat [(11, 3, I)] (fun st i => { St.at (St.only st [1, 2, 3, 4, 8, 10]) [(11, .os 2), (12, .d I (i : Int))] with ob := [.var 57 tRN ((t.1, t.2.1, rUp t p, ()) : RN), .var 57 tRN rn0, .row 3 I (seenU t p q i)] }) (fun _ i => i ≤ t.1.toNat ∧ rWriteE t p q v = 0) (fun i => t.1.toNat - i),
  loopAt 16 Nat [] (fun st k => St.at (St.only st [1, 2, 3, 4, 8, 10, 11, 12, 14]) [(13, .d I (mxF (rAt t p q) (st.i 12).toNat k)), (15, .d I (k : Int))]) (fun _ k => k ≤ (rAt t p q).length ∧ rWriteE t p q v = 0) (fun k => (rAt t p q).length - k)]
def rSyncE (t : RN) (a b : Int) : Int := if (inB a 0 (t.1 - 1) && inB b 0 (t.1 - 1)) = true then (if a = b then 6 else 0) else 1
def keepU (l m : List Va) : Nat → List Va
  | 0 => l
  | i + 1 => keepF (keepU l m i) (m.getD i va0)
def rSyncU (t : RN) (a b : Int) : Nat → RN
  | 0 => t
  | k + 1 => (t.1, setR (rSyncU t a b k).2.1 (b * 4 + (k : Int)) (keepU (rAt (rSyncU t a b k) b (k : Int)) (rAt (rSyncU t a b k) a (k : Int)) (rAt (rSyncU t a b k) a (k : Int)).length), t.2.2.1, ())
def rSyncT (t : RN) (a b : Int) : RN := if rSyncE t a b = 0 then rSyncU t a b 4 else t
/-- telling goes well: each list that is kept stays short, and of one width -/
def SyOk (t : RN) (a b : Int) : Prop := ∀ k, k < 4 → ∀ i, i ≤ (rAt (rSyncU t a b k) a (k : Int)).length → (keepU (rAt (rSyncU t a b k) b (k : Int)) (rAt (rSyncU t a b k) a (k : Int)) i).length ≤ 1000 ∧ ∀ u ∈ keepU (rAt (rSyncU t a b k) b (k : Int)) (rAt (rSyncU t a b k) a (k : Int)) i, (u.1.length : Int) = t.1
def cRSync : Ctr := cdet [tRN, I, I] (fun (t : RN) (a b : Int) => (RSh t ∧ (rSyncE t a b = 0 → SyOk t a b)) ∧ True) (fun (t : RN) (a b : Int) => [⟨tRN, rSyncT t a b⟩, ⟨I, rSyncE t a b⟩])
def anRSync (t : RN) (a b : Int) : Ann := [joinAll,
  loopAt 6 Nat [] (fun st k => { St.at (St.only st [1, 2, 3, 6]) [(8, .d I (k : Int))] with ob := [.var 57 tRN (rSyncU t a b k), .var 57 tRN rn0] }) (fun _ k => k ≤ 4 ∧ rSyncE t a b = 0) (fun k => 4 - k),
  loopAt 10 Nat [] (fun st i => St.at (St.only st [1, 2, 3, 6, 8]) [(9, .d (.sl tV) (keepU (rAt (rSyncU t a b (st.i 8).toNat) b (st.i 8)) (rAt (rSyncU t a b (st.i 8).toNat) a (st.i 8)) i)), (10, .d I (i : Int))]) (fun st i => i ≤ (rAt (rSyncU t a b (st.i 8).toNat) a (st.i 8)).length ∧ rSyncE t a b = 0) (fun i => 2000 - i)]
end Go.Proofs.YtgcliogognkdkaaDoor

/- What the functions of this seat have to satisfy, by program: each verification condition in plain words. -/
namespace Go.Proofs.YtgcliogognkdkaaDoor
open Go.Vc
set_option linter.unusedVariables false
theorem vcRIn5 (a b c : Int) (k : List Dat → Prop) : vcF ⟨Eg, [], [], [], []⟩ [joinAll] (Tryd.f45.body.getD .skip) Tryd.f45.ntmps [(.tmp 6, .bool)] [⟨I, a⟩, ⟨I, b⟩, ⟨I, c⟩] k = (
  (decide (b ≤ a) = true → k [Dat.mk Ty.bool (decide (a ≤ c))]) ∧ (decide (b ≤ a) = false → k [Dat.mk Ty.bool false])) := by kernel_rfl
theorem vcNewR (n : Int) (k : List Dat → Prop) : vcF ⟨Eh [6, 8], [], [], [], []⟩ [joinAll] (Tryd.f24.body.getD .skip) Tryd.f24.ntmps [(.cell 2 57, tRN)] [⟨I, n⟩] k = (
  (inK IntKind.i64 (n * (4 : Int)) ∧ (0 : Int) ≤ n * (4 : Int) ∧ n * (4 : Int) ≤ n * (4 : Int) ∧ n * (4 : Int) ≤ (1000000000 : Int) ∧ (0 : Int) ≤ n ∧ n ≤ n ∧ n ≤ (1000000000 : Int) ∧ True) ∧ k [Dat.mk ((I).pr ((tV).sl.sl.pr ((I).sl.pr Ty.un))) (n, List.replicate (n * (4 : Int)).toNat [], List.replicate n.toNat (0 : Int), ())]) := by kernel_rfl
theorem vcRSaw (v w : Va) (k : List Dat → Prop) : vcF ⟨Eg, [], [], [], []⟩ (anRSaw v w) (Tryd.f62.body.getD .skip) Tryd.f62.ntmps [(.tmp 4, .bool)] [⟨tV, v⟩, ⟨tV, w⟩] k = (
  (∃ (x : Nat), (x ≤ v.fst.length ∧ sawF v.fst w.fst x = true) ∧ (([] : List Nat) = [] ∧ ([] : List Nat) = [] ∧ (0 : Int) = (↑x : Int) ∧ True) ∧ (((84 : Nat) = (84 : Nat) ∧ v = v) ∧ ((84 : Nat) = (84 : Nat) ∧ w = w) ∧ True) ∧ True) ∧ ∀ (x : Nat), x ≤ v.fst.length ∧ sawF v.fst w.fst x = true → (decide ((↑x : Int) < (↑(List.length v.fst) : Int)) = true → ((0 : Int) ≤ (↑x : Int) ∧ (↑x : Int) < (↑(List.length v.fst) : Int) ∧ (0 : Int) ≤ (↑x : Int) ∧ (↑x : Int) < (↑(List.length w.fst) : Int) ∧ True) ∧ (decide (List.getD v.fst (↑x : Int).toNat (0 : Int) < List.getD w.fst (↑x : Int).toNat (0 : Int)) = true → k [Dat.mk Ty.bool false]) ∧ (decide (List.getD v.fst (↑x : Int).toNat (0 : Int) < List.getD w.fst (↑x : Int).toNat (0 : Int)) = false → inK IntKind.i64 ((↑x : Int) + (1 : Int)) ∧ ∃ (x_1 : Nat), (x_1 ≤ v.fst.length ∧ sawF v.fst w.fst x_1 = true) ∧ v.fst.length - x_1 < v.fst.length - x ∧ (([] : List Nat) = [] ∧ ([] : List Nat) = [] ∧ (↑x : Int) + (1 : Int) = (↑x_1 : Int) ∧ True) ∧ (((84 : Nat) = (84 : Nat) ∧ v = v) ∧ ((84 : Nat) = (84 : Nat) ∧ w = w) ∧ True) ∧ True)) ∧ (decide ((↑x : Int) < (↑(List.length v.fst) : Int)) = false → k [Dat.mk Ty.bool true])) := by kernel_rfl
theorem vcRBef (v w : Va) (k : List Dat → Prop) : vcF ⟨Eg, [], [], [], []⟩ (anRBef v w) (Tryd.f63.body.getD .skip) Tryd.f63.ntmps [(.tmp 4, .bool)] [⟨tV, v⟩, ⟨tV, w⟩] k = (
  (∃ (x : Nat), (x ≤ v.fst.length ∧ List.take x v.fst = List.take x w.fst) ∧ (([] : List Nat) = [] ∧ ([] : List Nat) = [] ∧ (0 : Int) = (↑x : Int) ∧ True) ∧ (((84 : Nat) = (84 : Nat) ∧ v = v) ∧ ((84 : Nat) = (84 : Nat) ∧ w = w) ∧ True) ∧ True) ∧ ∀ (x : Nat), x ≤ v.fst.length ∧ List.take x v.fst = List.take x w.fst → (decide ((↑x : Int) < (↑(List.length v.fst) : Int)) = true → ((0 : Int) ≤ (↑x : Int) ∧ (↑x : Int) < (↑(List.length v.fst) : Int) ∧ (0 : Int) ≤ (↑x : Int) ∧ (↑x : Int) < (↑(List.length w.fst) : Int) ∧ True) ∧ ((!decide (List.getD v.fst (↑x : Int).toNat (0 : Int) = List.getD w.fst (↑x : Int).toNat (0 : Int))) = true → ((0 : Int) ≤ (↑x : Int) ∧ (↑x : Int) < (↑(List.length v.fst) : Int) ∧ (0 : Int) ≤ (↑x : Int) ∧ (↑x : Int) < (↑(List.length w.fst) : Int) ∧ True) ∧ k [Dat.mk Ty.bool (decide (List.getD v.fst (↑x : Int).toNat (0 : Int) < List.getD w.fst (↑x : Int).toNat (0 : Int)))]) ∧ ((!decide (List.getD v.fst (↑x : Int).toNat (0 : Int) = List.getD w.fst (↑x : Int).toNat (0 : Int))) = false → inK IntKind.i64 ((↑x : Int) + (1 : Int)) ∧ ∃ (x_1 : Nat), (x_1 ≤ v.fst.length ∧ List.take x_1 v.fst = List.take x_1 w.fst) ∧ v.fst.length - x_1 < v.fst.length - x ∧ (([] : List Nat) = [] ∧ ([] : List Nat) = [] ∧ (↑x : Int) + (1 : Int) = (↑x_1 : Int) ∧ True) ∧ (((84 : Nat) = (84 : Nat) ∧ v = v) ∧ ((84 : Nat) = (84 : Nat) ∧ w = w) ∧ True) ∧ True)) ∧ (decide ((↑x : Int) < (↑(List.length v.fst) : Int)) = false → k [Dat.mk Ty.bool false])) := by kernel_rfl
theorem vcKeep (l : List Va) (v : Va) (k : List Dat → Prop) : vcF ⟨Eg, [(62, cRSaw), (63, cRBef)], [], [], []⟩ (anKeep l v) (Tryd.f48.body.getD .skip) Tryd.f48.ntmps [(.tmp 4, .sl tV)] [⟨.sl tV, l⟩, ⟨tV, v⟩] k = (
  (∃ (x : Nat), (x ≤ l.length ∧ anyS (List.take x l) v = false) ∧ (l = l ∧ ([] : List Nat) = [] ∧ (0 : Int) = (↑x : Int) ∧ True) ∧ (((84 : Nat) = (84 : Nat) ∧ v = v) ∧ True) ∧ True) ∧ ∀ (x : Nat), x ≤ l.length ∧ anyS (List.take x l) v = false → (decide ((↑x : Int) < (↑l.length : Int)) = true → ((0 : Int) ≤ (↑x : Int) ∧ (↑x : Int) < (↑l.length : Int) ∧ (List.length (l.getD (↑x : Int).toNat va0).fst ≤ List.length v.fst ∧ True) ∧ True) ∧ (sawB (l.getD (↑x : Int).toNat va0) v = true → k [Dat.mk (tV).sl l]) ∧ (sawB (l.getD (↑x : Int).toNat va0) v = false → inK IntKind.i64 ((↑x : Int) + (1 : Int)) ∧ ∃ (x_1 : Nat), (x_1 ≤ l.length ∧ anyS (List.take x_1 l) v = false) ∧ l.length - x_1 < l.length - x ∧ (l = l ∧ ([] : List Nat) = [] ∧ (↑x : Int) + (1 : Int) = (↑x_1 : Int) ∧ True) ∧ (((84 : Nat) = (84 : Nat) ∧ v = v) ∧ True) ∧ True)) ∧ (decide ((↑x : Int) < (↑l.length : Int)) = false → (∃ (x : Nat), (x ≤ l.length ∧ anyS l v = false) ∧ (l = l ∧ ([] : List Nat) = [] ∧ True ∧ (0 : Int) = (↑x : Int) ∧ True) ∧ (((84 : Nat) = (84 : Nat) ∧ v = v) ∧ ((84 : Nat) = (84 : Nat) ∧ [] = List.filter (loA v) (List.take x l)) ∧ True) ∧ True) ∧ ∀ (x : Nat), x ≤ l.length ∧ anyS l v = false → (decide ((↑x : Int) < (↑l.length : Int)) = true → ((0 : Int) ≤ (↑x : Int) ∧ (↑x : Int) < (↑l.length : Int) ∧ (List.length v.fst ≤ List.length (l.getD (↑x : Int).toNat va0).fst ∧ True) ∧ ((!sawB v (l.getD (↑x : Int).toNat va0)) = true → (0 : Int) ≤ (↑x : Int) ∧ (↑x : Int) < (↑l.length : Int) ∧ (List.length (l.getD (↑x : Int).toNat va0).fst = List.length v.fst ∧ True) ∧ True) ∧ ((!sawB v (l.getD (↑x : Int).toNat va0)) = false → True)) ∧ ((!sawB v (l.getD (↑x : Int).toNat va0) && befB (l.getD (↑x : Int).toNat va0) v) = true → (0 : Int) ≤ (↑x : Int) ∧ (↑x : Int) < (↑l.length : Int) ∧ (List.filter (loA v) (List.take x l)).length + ((List.replicate (1 : Nat) va0).set (0 : Nat) (l.getD (↑x : Int).toNat va0)).length ≤ (1000000000 : Nat) ∧ inK IntKind.i64 ((↑x : Int) + (1 : Int)) ∧ ∃ (x_1 : Nat), (x_1 ≤ l.length ∧ anyS l v = false) ∧ l.length - x_1 < l.length - x ∧ (l = l ∧ ([] : List Nat) = [] ∧ True ∧ (↑x : Int) + (1 : Int) = (↑x_1 : Int) ∧ True) ∧ (((84 : Nat) = (84 : Nat) ∧ v = v) ∧ ((84 : Nat) = (84 : Nat) ∧ (List.filter (loA v) (List.take x l)).append ((List.replicate (1 : Nat) va0).set (0 : Nat) (l.getD (↑x : Int).toNat va0)) = List.filter (loA v) (List.take x_1 l)) ∧ True) ∧ True) ∧ ((!sawB v (l.getD (↑x : Int).toNat va0) && befB (l.getD (↑x : Int).toNat va0) v) = false → inK IntKind.i64 ((↑x : Int) + (1 : Int)) ∧ ∃ (x_1 : Nat), (x_1 ≤ l.length ∧ anyS l v = false) ∧ l.length - x_1 < l.length - x ∧ (l = l ∧ ([] : List Nat) = [] ∧ True ∧ (↑x : Int) + (1 : Int) = (↑x_1 : Int) ∧ True) ∧ (((84 : Nat) = (84 : Nat) ∧ v = v) ∧ ((84 : Nat) = (84 : Nat) ∧ List.filter (loA v) (List.take x l) = List.filter (loA v) (List.take x_1 l)) ∧ True) ∧ True)) ∧ (decide ((↑x : Int) < (↑l.length : Int)) = false → (List.filter (loA v) (List.take x l)).length + ((List.replicate (1 : Nat) va0).set (0 : Nat) v).length ≤ (1000000000 : Nat) ∧ (∃ (x_1 : Nat), (x_1 ≤ l.length ∧ anyS l v = false) ∧ (l = l ∧ ([] : List Nat) = [] ∧ True ∧ (0 : Int) = (↑x_1 : Int) ∧ True) ∧ (((84 : Nat) = (84 : Nat) ∧ v = v) ∧ ((84 : Nat) = (84 : Nat) ∧ (List.filter (loA v) (List.take x l)).append ((List.replicate (1 : Nat) va0).set (0 : Nat) v) = List.filter (loA v) l ++ [v] ++ List.filter (hiA v) (List.take x_1 l)) ∧ True) ∧ True) ∧ ∀ (x : Nat), x ≤ l.length ∧ anyS l v = false → (decide ((↑x : Int) < (↑l.length : Int)) = true → ((0 : Int) ≤ (↑x : Int) ∧ (↑x : Int) < (↑l.length : Int) ∧ (List.length v.fst ≤ List.length (l.getD (↑x : Int).toNat va0).fst ∧ True) ∧ ((!sawB v (l.getD (↑x : Int).toNat va0)) = true → (0 : Int) ≤ (↑x : Int) ∧ (↑x : Int) < (↑l.length : Int) ∧ (List.length v.fst = List.length (l.getD (↑x : Int).toNat va0).fst ∧ True) ∧ True) ∧ ((!sawB v (l.getD (↑x : Int).toNat va0)) = false → True)) ∧ ((!sawB v (l.getD (↑x : Int).toNat va0) && befB v (l.getD (↑x : Int).toNat va0)) = true → (0 : Int) ≤ (↑x : Int) ∧ (↑x : Int) < (↑l.length : Int) ∧ (List.filter (loA v) l ++ [v] ++ List.filter (hiA v) (List.take x l)).length + ((List.replicate (1 : Nat) va0).set (0 : Nat) (l.getD (↑x : Int).toNat va0)).length ≤ (1000000000 : Nat) ∧ inK IntKind.i64 ((↑x : Int) + (1 : Int)) ∧ ∃ (x_1 : Nat), (x_1 ≤ l.length ∧ anyS l v = false) ∧ l.length - x_1 < l.length - x ∧ (l = l ∧ ([] : List Nat) = [] ∧ True ∧ (↑x : Int) + (1 : Int) = (↑x_1 : Int) ∧ True) ∧ (((84 : Nat) = (84 : Nat) ∧ v = v) ∧ ((84 : Nat) = (84 : Nat) ∧ (List.filter (loA v) l ++ [v] ++ List.filter (hiA v) (List.take x l)).append ((List.replicate (1 : Nat) va0).set (0 : Nat) (l.getD (↑x : Int).toNat va0)) = List.filter (loA v) l ++ [v] ++ List.filter (hiA v) (List.take x_1 l)) ∧ True) ∧ True) ∧ ((!sawB v (l.getD (↑x : Int).toNat va0) && befB v (l.getD (↑x : Int).toNat va0)) = false → inK IntKind.i64 ((↑x : Int) + (1 : Int)) ∧ ∃ (x_1 : Nat), (x_1 ≤ l.length ∧ anyS l v = false) ∧ l.length - x_1 < l.length - x ∧ (l = l ∧ ([] : List Nat) = [] ∧ True ∧ (↑x : Int) + (1 : Int) = (↑x_1 : Int) ∧ True) ∧ (((84 : Nat) = (84 : Nat) ∧ v = v) ∧ ((84 : Nat) = (84 : Nat) ∧ List.filter (loA v) l ++ [v] ++ List.filter (hiA v) (List.take x l) = List.filter (loA v) l ++ [v] ++ List.filter (hiA v) (List.take x_1 l)) ∧ True) ∧ True)) ∧ (decide ((↑x : Int) < (↑l.length : Int)) = false → k [Dat.mk (tV).sl (List.filter (loA v) l ++ [v] ++ List.filter (hiA v) (List.take x l))])))) := by kernel_rfl
theorem vcRow (l : List (List Va)) (i : Int) (x : List Va) (k : List Dat → Prop) : vcF ⟨Eg, [], [], [], []⟩ [joinAll] (Tryd.f46.body.getD .skip) Tryd.f46.ntmps [(.tmp 6, .sl (.sl tV))] [⟨.sl (.sl tV), l⟩, ⟨I, i⟩, ⟨.sl tV, x⟩] k = (
  (0 : Int) ≤ (0 : Int) ∧ (0 : Int) ≤ i ∧ i ≤ (↑l.length : Int) ∧ (List.drop (Int.toNat (0 : Int)) (List.take i.toNat l)).length ≤ (1000000000 : Nat) ∧ (List.drop (Int.toNat (0 : Int)) (List.take i.toNat l)).length + ((List.replicate (1 : Nat) []).set (0 : Nat) x).length ≤ (1000000000 : Nat) ∧ inK IntKind.i64 (i + (1 : Int)) ∧ (0 : Int) ≤ i + (1 : Int) ∧ i + (1 : Int) ≤ (↑l.length : Int) ∧ (↑l.length : Int) ≤ (↑l.length : Int) ∧ ((List.drop (Int.toNat (0 : Int)) (List.take i.toNat l)).append ((List.replicate (1 : Nat) []).set (0 : Nat) x)).length + (List.drop (i + (1 : Int)).toNat (List.take (↑l.length : Int).toNat l)).length ≤ (1000000000 : Nat) ∧ k [Dat.mk (tV).sl.sl (((List.drop (Int.toNat (0 : Int)) (List.take i.toNat l)).append ((List.replicate (1 : Nat) []).set (0 : Nat) x)).append (List.drop (i + (1 : Int)).toNat (List.take (↑l.length : Int).toNat l)))]) := by kernel_rfl
theorem vcRWrite (t : RN) (p q v : Int) (k : List Dat → Prop) : vcF ⟨Eh [], [(45, cWithin), (46, cRow)], [], [], []⟩ (anRWrite t p q v) (Tryd.f25.body.getD .skip) Tryd.f25.ntmps [(.cell 8 57, tRN), (.tmp 9, I)] [⟨tRN, t⟩, ⟨I, p⟩, ⟨I, q⟩, ⟨I, v⟩] k = (
  inK IntKind.i64 (t.fst - (1 : Int)) ∧ True ∧ ((!inB p (0 : Int) (t.fst - (1 : Int))) = true → k [Dat.mk ((I).pr ((tV).sl.sl.pr ((I).sl.pr Ty.un))) t, Dat.mk (I) (1 : Int)]) ∧ ((!inB p (0 : Int) (t.fst - (1 : Int))) = false → True ∧ ((!inB q (0 : Int) (3 : Int)) = true → k [Dat.mk ((I).pr ((tV).sl.sl.pr ((I).sl.pr Ty.un))) t, Dat.mk (I) (1 : Int)]) ∧ ((!inB q (0 : Int) (3 : Int)) = false → True ∧ ((!inB v (0 : Int) (1000000 : Int)) = true → k [Dat.mk ((I).pr ((tV).sl.sl.pr ((I).sl.pr Ty.un))) t, Dat.mk (I) (1 : Int)]) ∧ ((!inB v (0 : Int) (1000000 : Int)) = false → (0 : Int) ≤ p ∧ p < (↑(List.length t.snd.snd.fst) : Int) ∧ (decide ((60 : Int) ≤ List.getD t.snd.snd.fst p.toNat (0 : Int)) = true → k [Dat.mk ((I).pr ((tV).sl.sl.pr ((I).sl.pr Ty.un))) t, Dat.mk (I) (4 : Int)]) ∧ (decide ((60 : Int) ≤ List.getD t.snd.snd.fst p.toNat (0 : Int)) = false → List.length t.snd.snd.fst ≤ (1000000000 : Nat) ∧ (0 : Int) ≤ p ∧ p < (↑(List.length t.snd.snd.fst) : Int) ∧ inK IntKind.i64 (List.getD t.snd.snd.fst p.toNat (0 : Int) + (1 : Int)) ∧ (0 : Int) ≤ p ∧ p < (↑(List.length t.snd.snd.fst) : Int) ∧ (∃ (x : Nat), (x ≤ t.fst.toNat ∧ rWriteE t p q v = (0 : Int)) ∧ (p = p ∧ q = q ∧ v = v ∧ ([] : List Nat) = [] ∧ ([] : List Nat) = [] ∧ List.set t.snd.snd.fst p.toNat (List.getD t.snd.snd.fst p.toNat (0 : Int) + (1 : Int)) = List.set t.snd.snd.fst p.toNat (List.getD t.snd.snd.fst p.toNat (0 : Int) + (1 : Int)) ∧ True ∧ (0 : Int) = (↑x : Int) ∧ True) ∧ (((57 : Nat) = (57 : Nat) ∧ (t.fst, t.snd.fst, List.set t.snd.snd.fst p.toNat (List.getD t.snd.snd.fst p.toNat (0 : Int) + (1 : Int)), t.snd.snd.snd) = (t.fst, t.snd.fst, rUp t p, ())) ∧ ((57 : Nat) = (57 : Nat) ∧ ((0 : Int), [], [], ()) = rn0) ∧ ((3 : Nat) = (3 : Nat) ∧ [] = seenU t p q x) ∧ True) ∧ True) ∧ ∀ (x : Nat), x ≤ t.fst.toNat ∧ rWriteE t p q v = (0 : Int) → (decide ((↑x : Int) < t.fst) = true → inK IntKind.i64 (p * (4 : Int)) ∧ inK IntKind.i64 (p * (4 : Int) + q) ∧ (0 : Int) ≤ p * (4 : Int) + q ∧ p * (4 : Int) + q < (↑t.snd.fst.length : Int) ∧ (∃ (x_1 : Nat), (x_1 ≤ (rAt t p q).length ∧ rWriteE t p q v = (0 : Int)) ∧ (p = p ∧ q = q ∧ v = v ∧ ([] : List Nat) = [] ∧ ([] : List Nat) = [] ∧ List.set t.snd.snd.fst p.toNat (List.getD t.snd.snd.fst p.toNat (0 : Int) + (1 : Int)) = List.set t.snd.snd.fst p.toNat (List.getD t.snd.snd.fst p.toNat (0 : Int) + (1 : Int)) ∧ True ∧ (↑x : Int) = (↑x : Int) ∧ (0 : Int) = mxF (rAt t p q) (↑x : Int).toNat x_1 ∧ t.snd.fst.getD (p * (4 : Int) + q).toNat [] = t.snd.fst.getD (p * (4 : Int) + q).toNat [] ∧ (0 : Int) = (↑x_1 : Int) ∧ True) ∧ (((57 : Nat) = (57 : Nat) ∧ (t.fst, t.snd.fst, rUp t p, ()) = (t.fst, t.snd.fst, rUp t p, ())) ∧ ((57 : Nat) = (57 : Nat) ∧ rn0 = rn0) ∧ ((3 : Nat) = (3 : Nat) ∧ seenU t p q x = seenU t p q x) ∧ True) ∧ True) ∧ ∀ (x_1 : Nat), x_1 ≤ (rAt t p q).length ∧ rWriteE t p q v = (0 : Int) → (decide ((↑x_1 : Int) < (↑(t.snd.fst.getD (p * (4 : Int) + q).toNat []).length : Int)) = true → (0 : Int) ≤ (↑x_1 : Int) ∧ (↑x_1 : Int) < (↑(t.snd.fst.getD (p * (4 : Int) + q).toNat []).length : Int) ∧ (0 : Int) ≤ (↑x : Int) ∧ (↑x : Int) < (↑(List.length ((t.snd.fst.getD (p * (4 : Int) + q).toNat []).getD (↑x_1 : Int).toNat va0).fst) : Int) ∧ (decide (mxF (rAt t p q) (↑x : Int).toNat x_1 < List.getD ((t.snd.fst.getD (p * (4 : Int) + q).toNat []).getD (↑x_1 : Int).toNat va0).fst (↑x : Int).toNat (0 : Int)) = true → (0 : Int) ≤ (↑x_1 : Int) ∧ (↑x_1 : Int) < (↑(t.snd.fst.getD (p * (4 : Int) + q).toNat []).length : Int) ∧ (0 : Int) ≤ (↑x : Int) ∧ (↑x : Int) < (↑(List.length ((t.snd.fst.getD (p * (4 : Int) + q).toNat []).getD (↑x_1 : Int).toNat va0).fst) : Int) ∧ inK IntKind.i64 ((↑x_1 : Int) + (1 : Int)) ∧ ∃ (x_2 : Nat), (x_2 ≤ (rAt t p q).length ∧ rWriteE t p q v = (0 : Int)) ∧ (rAt t p q).length - x_2 < (rAt t p q).length - x_1 ∧ (p = p ∧ q = q ∧ v = v ∧ ([] : List Nat) = [] ∧ ([] : List Nat) = [] ∧ List.set t.snd.snd.fst p.toNat (List.getD t.snd.snd.fst p.toNat (0 : Int) + (1 : Int)) = List.set t.snd.snd.fst p.toNat (List.getD t.snd.snd.fst p.toNat (0 : Int) + (1 : Int)) ∧ True ∧ (↑x : Int) = (↑x : Int) ∧ List.getD ((t.snd.fst.getD (p * (4 : Int) + q).toNat []).getD (↑x_1 : Int).toNat va0).fst (↑x : Int).toNat (0 : Int) = mxF (rAt t p q) (↑x : Int).toNat x_2 ∧ t.snd.fst.getD (p * (4 : Int) + q).toNat [] = t.snd.fst.getD (p * (4 : Int) + q).toNat [] ∧ (↑x_1 : Int) + (1 : Int) = (↑x_2 : Int) ∧ True) ∧ (((57 : Nat) = (57 : Nat) ∧ (t.fst, t.snd.fst, rUp t p, ()) = (t.fst, t.snd.fst, rUp t p, ())) ∧ ((57 : Nat) = (57 : Nat) ∧ rn0 = rn0) ∧ ((3 : Nat) = (3 : Nat) ∧ seenU t p q x = seenU t p q x) ∧ True) ∧ True) ∧ (decide (mxF (rAt t p q) (↑x : Int).toNat x_1 < List.getD ((t.snd.fst.getD (p * (4 : Int) + q).toNat []).getD (↑x_1 : Int).toNat va0).fst (↑x : Int).toNat (0 : Int)) = false → inK IntKind.i64 ((↑x_1 : Int) + (1 : Int)) ∧ ∃ (x_2 : Nat), (x_2 ≤ (rAt t p q).length ∧ rWriteE t p q v = (0 : Int)) ∧ (rAt t p q).length - x_2 < (rAt t p q).length - x_1 ∧ (p = p ∧ q = q ∧ v = v ∧ ([] : List Nat) = [] ∧ ([] : List Nat) = [] ∧ List.set t.snd.snd.fst p.toNat (List.getD t.snd.snd.fst p.toNat (0 : Int) + (1 : Int)) = List.set t.snd.snd.fst p.toNat (List.getD t.snd.snd.fst p.toNat (0 : Int) + (1 : Int)) ∧ True ∧ (↑x : Int) = (↑x : Int) ∧ mxF (rAt t p q) (↑x : Int).toNat x_1 = mxF (rAt t p q) (↑x : Int).toNat x_2 ∧ t.snd.fst.getD (p * (4 : Int) + q).toNat [] = t.snd.fst.getD (p * (4 : Int) + q).toNat [] ∧ (↑x_1 : Int) + (1 : Int) = (↑x_2 : Int) ∧ True) ∧ (((57 : Nat) = (57 : Nat) ∧ (t.fst, t.snd.fst, rUp t p, ()) = (t.fst, t.snd.fst, rUp t p, ())) ∧ ((57 : Nat) = (57 : Nat) ∧ rn0 = rn0) ∧ ((3 : Nat) = (3 : Nat) ∧ seenU t p q x = seenU t p q x) ∧ True) ∧ True)) ∧ (decide ((↑x_1 : Int) < (↑(t.snd.fst.getD (p * (4 : Int) + q).toNat []).length : Int)) = false → (decide ((↑x : Int) = p) = true → (0 : Int) ≤ p ∧ p < (↑(List.set t.snd.snd.fst p.toNat (List.getD t.snd.snd.fst p.toNat (0 : Int) + (1 : Int))).length : Int) ∧ (seenU t p q x).length + ((List.replicate (1 : Nat) (0 : Int)).set (0 : Nat) ((List.set t.snd.snd.fst p.toNat (List.getD t.snd.snd.fst p.toNat (0 : Int) + (1 : Int))).getD p.toNat (0 : Int))).length ≤ (1000000000 : Nat) ∧ inK IntKind.i64 ((↑x : Int) + (1 : Int)) ∧ ∃ (x_2 : Nat), (x_2 ≤ t.fst.toNat ∧ rWriteE t p q v = (0 : Int)) ∧ t.fst.toNat - x_2 < t.fst.toNat - x ∧ (p = p ∧ q = q ∧ v = v ∧ ([] : List Nat) = [] ∧ ([] : List Nat) = [] ∧ List.set t.snd.snd.fst p.toNat (List.getD t.snd.snd.fst p.toNat (0 : Int) + (1 : Int)) = List.set t.snd.snd.fst p.toNat (List.getD t.snd.snd.fst p.toNat (0 : Int) + (1 : Int)) ∧ True ∧ (↑x : Int) + (1 : Int) = (↑x_2 : Int) ∧ True) ∧ (((57 : Nat) = (57 : Nat) ∧ (t.fst, t.snd.fst, rUp t p, ()) = (t.fst, t.snd.fst, rUp t p, ())) ∧ ((57 : Nat) = (57 : Nat) ∧ rn0 = rn0) ∧ ((3 : Nat) = (3 : Nat) ∧ (seenU t p q x).append ((List.replicate (1 : Nat) (0 : Int)).set (0 : Nat) ((List.set t.snd.snd.fst p.toNat (List.getD t.snd.snd.fst p.toNat (0 : Int) + (1 : Int))).getD p.toNat (0 : Int))) = seenU t p q x_2) ∧ True) ∧ True) ∧ (decide ((↑x : Int) = p) = false → (seenU t p q x).length + ((List.replicate (1 : Nat) (0 : Int)).set (0 : Nat) (mxF (rAt t p q) (↑x : Int).toNat x_1)).length ≤ (1000000000 : Nat) ∧ inK IntKind.i64 ((↑x : Int) + (1 : Int)) ∧ ∃ (x_2 : Nat), (x_2 ≤ t.fst.toNat ∧ rWriteE t p q v = (0 : Int)) ∧ t.fst.toNat - x_2 < t.fst.toNat - x ∧ (p = p ∧ q = q ∧ v = v ∧ ([] : List Nat) = [] ∧ ([] : List Nat) = [] ∧ List.set t.snd.snd.fst p.toNat (List.getD t.snd.snd.fst p.toNat (0 : Int) + (1 : Int)) = List.set t.snd.snd.fst p.toNat (List.getD t.snd.snd.fst p.toNat (0 : Int) + (1 : Int)) ∧ True ∧ (↑x : Int) + (1 : Int) = (↑x_2 : Int) ∧ True) ∧ (((57 : Nat) = (57 : Nat) ∧ (t.fst, t.snd.fst, rUp t p, ()) = (t.fst, t.snd.fst, rUp t p, ())) ∧ ((57 : Nat) = (57 : Nat) ∧ rn0 = rn0) ∧ ((3 : Nat) = (3 : Nat) ∧ (seenU t p q x).append ((List.replicate (1 : Nat) (0 : Int)).set (0 : Nat) (mxF (rAt t p q) (↑x : Int).toNat x_1)) = seenU t p q x_2) ∧ True) ∧ True))) ∧ (decide ((↑x : Int) < t.fst) = false → inK IntKind.i64 (p * (4 : Int)) ∧ inK IntKind.i64 (p * (4 : Int) + q) ∧ ((((0 : Int) ≤ p * (4 : Int) + q ∧ p * (4 : Int) + q < (↑t.snd.fst.length : Int)) ∧ t.snd.fst.length ≤ (1000 : Nat)) ∧ True) ∧ k [Dat.mk ((I).pr ((tV).sl.sl.pr ((I).sl.pr Ty.un))) (t.fst, List.take (p * (4 : Int) + q).toNat t.snd.fst ++ [(List.replicate (1 : Nat) va0).set (0 : Nat) (seenU t p q x, v, ())] ++ List.drop ((p * (4 : Int) + q).toNat + (1 : Nat)) t.snd.fst, rUp t p, ()), Dat.mk (I) (0 : Int)])))))) := by kernel_rfl
theorem vcRSync (t : RN) (a b : Int) (k : List Dat → Prop) : vcF ⟨Eh [], [(45, cWithin), (46, cRow), (48, cKeep)], [], [], []⟩ (anRSync t a b) (Tryd.f27.body.getD .skip) Tryd.f27.ntmps [(.cell 6 57, tRN), (.tmp 7, I)] [⟨tRN, t⟩, ⟨I, a⟩, ⟨I, b⟩] k = (
  inK IntKind.i64 (t.fst - (1 : Int)) ∧ True ∧ ((!inB a (0 : Int) (t.fst - (1 : Int))) = true → k [Dat.mk ((I).pr ((tV).sl.sl.pr ((I).sl.pr Ty.un))) t, Dat.mk (I) (1 : Int)]) ∧ ((!inB a (0 : Int) (t.fst - (1 : Int))) = false → inK IntKind.i64 (t.fst - (1 : Int)) ∧ True ∧ ((!inB b (0 : Int) (t.fst - (1 : Int))) = true → k [Dat.mk ((I).pr ((tV).sl.sl.pr ((I).sl.pr Ty.un))) t, Dat.mk (I) (1 : Int)]) ∧ ((!inB b (0 : Int) (t.fst - (1 : Int))) = false → (decide (a = b) = true → k [Dat.mk ((I).pr ((tV).sl.sl.pr ((I).sl.pr Ty.un))) t, Dat.mk (I) (6 : Int)]) ∧ (decide (a = b) = false → (∃ (x : Nat), (x ≤ (4 : Nat) ∧ rSyncE t a b = (0 : Int)) ∧ (a = a ∧ b = b ∧ ([] : List Nat) = [] ∧ ([] : List Nat) = [] ∧ (0 : Int) = (↑x : Int) ∧ True) ∧ (((57 : Nat) = (57 : Nat) ∧ t = rSyncU t a b x) ∧ ((57 : Nat) = (57 : Nat) ∧ ((0 : Int), [], [], ()) = rn0) ∧ True) ∧ True) ∧ ∀ (x : Nat), x ≤ (4 : Nat) ∧ rSyncE t a b = (0 : Int) → (decide ((↑x : Int) < (4 : Int)) = true → inK IntKind.i64 (b * (4 : Int)) ∧ inK IntKind.i64 (b * (4 : Int) + (↑x : Int)) ∧ (0 : Int) ≤ b * (4 : Int) + (↑x : Int) ∧ b * (4 : Int) + (↑x : Int) < (↑(List.length (rSyncU t a b x).snd.fst) : Int) ∧ (∃ (x_1 : Nat), (x_1 ≤ (rAt (rSyncU t a b (↑x : Int).toNat) a (↑x : Int)).length ∧ rSyncE t a b = (0 : Int)) ∧ (a = a ∧ b = b ∧ ([] : List Nat) = [] ∧ ([] : List Nat) = [] ∧ (↑x : Int) = (↑x : Int) ∧ List.getD (rSyncU t a b x).snd.fst (b * (4 : Int) + (↑x : Int)).toNat [] = keepU (rAt (rSyncU t a b (↑x : Int).toNat) b (↑x : Int)) (rAt (rSyncU t a b (↑x : Int).toNat) a (↑x : Int)) x_1 ∧ (0 : Int) = (↑x_1 : Int) ∧ True) ∧ (((57 : Nat) = (57 : Nat) ∧ rSyncU t a b x = rSyncU t a b x) ∧ ((57 : Nat) = (57 : Nat) ∧ rn0 = rn0) ∧ True) ∧ True) ∧ ∀ (x_1 : Nat), x_1 ≤ (rAt (rSyncU t a b (↑x : Int).toNat) a (↑x : Int)).length ∧ rSyncE t a b = (0 : Int) → inK IntKind.i64 (a * (4 : Int)) ∧ inK IntKind.i64 (a * (4 : Int) + (↑x : Int)) ∧ (0 : Int) ≤ a * (4 : Int) + (↑x : Int) ∧ a * (4 : Int) + (↑x : Int) < (↑(List.length (rSyncU t a b x).snd.fst) : Int) ∧ (decide ((↑x_1 : Int) < (↑(List.getD (rSyncU t a b x).snd.fst (a * (4 : Int) + (↑x : Int)).toNat []).length : Int)) = true → inK IntKind.i64 (a * (4 : Int)) ∧ inK IntKind.i64 (a * (4 : Int) + (↑x : Int)) ∧ (0 : Int) ≤ a * (4 : Int) + (↑x : Int) ∧ a * (4 : Int) + (↑x : Int) < (↑(List.length (rSyncU t a b x).snd.fst) : Int) ∧ (0 : Int) ≤ (↑x_1 : Int) ∧ (↑x_1 : Int) < (↑(List.getD (rSyncU t a b x).snd.fst (a * (4 : Int) + (↑x : Int)).toNat []).length : Int) ∧ (((keepU (rAt (rSyncU t a b (↑x : Int).toNat) b (↑x : Int)) (rAt (rSyncU t a b (↑x : Int).toNat) a (↑x : Int)) x_1).length ≤ (1000 : Nat) ∧ ∀ (u : List Int × Int × Unit), u ∈ keepU (rAt (rSyncU t a b (↑x : Int).toNat) b (↑x : Int)) (rAt (rSyncU t a b (↑x : Int).toNat) a (↑x : Int)) x_1 → u.fst.length = ((List.getD (rSyncU t a b x).snd.fst (a * (4 : Int) + (↑x : Int)).toNat []).getD (↑x_1 : Int).toNat va0).fst.length) ∧ True) ∧ inK IntKind.i64 ((↑x_1 : Int) + (1 : Int)) ∧ ∃ (x_2 : Nat), (x_2 ≤ (rAt (rSyncU t a b (↑x : Int).toNat) a (↑x : Int)).length ∧ rSyncE t a b = (0 : Int)) ∧ (2000 : Nat) - x_2 < (2000 : Nat) - x_1 ∧ (a = a ∧ b = b ∧ ([] : List Nat) = [] ∧ ([] : List Nat) = [] ∧ (↑x : Int) = (↑x : Int) ∧ keepF (keepU (rAt (rSyncU t a b (↑x : Int).toNat) b (↑x : Int)) (rAt (rSyncU t a b (↑x : Int).toNat) a (↑x : Int)) x_1) ((List.getD (rSyncU t a b x).snd.fst (a * (4 : Int) + (↑x : Int)).toNat []).getD (↑x_1 : Int).toNat va0) = keepU (rAt (rSyncU t a b (↑x : Int).toNat) b (↑x : Int)) (rAt (rSyncU t a b (↑x : Int).toNat) a (↑x : Int)) x_2 ∧ (↑x_1 : Int) + (1 : Int) = (↑x_2 : Int) ∧ True) ∧ (((57 : Nat) = (57 : Nat) ∧ rSyncU t a b x = rSyncU t a b x) ∧ ((57 : Nat) = (57 : Nat) ∧ rn0 = rn0) ∧ True) ∧ True) ∧ (decide ((↑x_1 : Int) < (↑(List.getD (rSyncU t a b x).snd.fst (a * (4 : Int) + (↑x : Int)).toNat []).length : Int)) = false → inK IntKind.i64 (b * (4 : Int)) ∧ inK IntKind.i64 (b * (4 : Int) + (↑x : Int)) ∧ ((((0 : Int) ≤ b * (4 : Int) + (↑x : Int) ∧ b * (4 : Int) + (↑x : Int) < (↑(List.length (rSyncU t a b x).snd.fst) : Int)) ∧ List.length (rSyncU t a b x).snd.fst ≤ (1000 : Nat)) ∧ True) ∧ inK IntKind.i64 ((↑x : Int) + (1 : Int)) ∧ ∃ (x_2 : Nat), (x_2 ≤ (4 : Nat) ∧ rSyncE t a b = (0 : Int)) ∧ (4 : Nat) - x_2 < (4 : Nat) - x ∧ (a = a ∧ b = b ∧ ([] : List Nat) = [] ∧ ([] : List Nat) = [] ∧ (↑x : Int) + (1 : Int) = (↑x_2 : Int) ∧ True) ∧ (((57 : Nat) = (57 : Nat) ∧ ((rSyncU t a b x).fst, List.take (b * (4 : Int) + (↑x : Int)).toNat (rSyncU t a b x).snd.fst ++ [keepU (rAt (rSyncU t a b (↑x : Int).toNat) b (↑x : Int)) (rAt (rSyncU t a b (↑x : Int).toNat) a (↑x : Int)) x_1] ++ List.drop ((b * (4 : Int) + (↑x : Int)).toNat + (1 : Nat)) (rSyncU t a b x).snd.fst, (rSyncU t a b x).snd.snd) = rSyncU t a b x_2) ∧ ((57 : Nat) = (57 : Nat) ∧ rn0 = rn0) ∧ True) ∧ True)) ∧ (decide ((↑x : Int) < (4 : Int)) = false → k [Dat.mk ((I).pr ((tV).sl.sl.pr ((I).sl.pr Ty.un))) (rSyncU t a b x), Dat.mk (I) (0 : Int)]))))) := by kernel_rfl
end Go.Proofs.YtgcliogognkdkaaDoor

/- Nets: the reference's functions keep their contracts. -/
namespace Go.Proofs.YtgcliogognkdkaaDoor
open Go.Vc Go.Proofs

theorem okRIn5 : PlainOk Tryd.prog [] 45 cWithin := by
  refine plain_of (CxOk.mk' Eg_ok (by kernel_rfl) mixed (gl := []) GOk.nil GoOk.nil noIt) Tryd.func45 (c := Tryd.f45.body.getD .skip) (rvs := [(.tmp 6, .bool)]) (by kernel_rfl) (by kernel_rfl) (by kernel_rfl) ?_
  intro ds k ⟨hp, hk⟩ hwf
  obtain ⟨a, b, c, rfl, -⟩ := dest3 hp
  refine ⟨[joinAll], ?_⟩
  rw [vcRIn5]
  have ret : ∀ x : Bool, inB a b c = x → k [⟨.bool, x⟩] := by rintro _ rfl; exact hk
  exact ⟨fun h => ret _ (by unfold inB; rw [h]; rfl), fun h => ret _ (by unfold inB; rw [h]; rfl)⟩
theorem okNewR : PlainOk Tryd.prog [] 24 cNewR := by
  refine plain_of (CxOk.mk' (Eh_ok [6, 8]) (by kernel_rfl) mixed (gl := []) GOk.nil GoOk.nil noIt) Tryd.func24 (c := Tryd.f24.body.getD .skip) (rvs := [(.cell 2 57, tRN)]) (by kernel_rfl) (by kernel_rfl) (by kernel_rfl) ?_
  intro ds k ⟨hp, hk⟩ hwf
  obtain ⟨n, rfl, ⟨h0, h5⟩, -⟩ := dest1 hp
  refine ⟨[joinAll], ?_⟩
  rw [vcNewR]
  simp only [inK_i64]
  exact ⟨⟨by omega, by omega, Int.le_refl _, by omega, h0, Int.le_refl _, by omega, trivial⟩, hk⟩
theorem rsaw_vc (v w : Va) (hw : v.1.length ≤ w.1.length) (hl : v.1.length ≤ maxLen) (k : List Dat → Prop) (hk : k [⟨.bool, sawB v w⟩]) : vcF ⟨Eg, [], [], [], []⟩ (anRSaw v w) (Tryd.f62.body.getD .skip) Tryd.f62.ntmps [(.tmp 4, .bool)] [⟨tV, v⟩, ⟨tV, w⟩] k := by
  rw [vcRSaw]
  have hml : maxLen ≤ 9223372036854775807 := by decide
  have ret : ∀ x : Bool, sawB v w = x → k [⟨.bool, x⟩] := by rintro _ rfl; exact hk
  simp only [decide_eq_true_eq, decide_eq_false_iff_not, true_and, and_true, Int.toNat_natCast, inK_i64]
  refine ⟨⟨0, ⟨Nat.zero_le _, rfl⟩, rfl⟩, fun x ⟨hx, hs⟩ => ⟨fun hlt => ?_, fun hge => ret _ ?_⟩⟩
  · have hxl : x < v.1.length := by omega
    refine ⟨⟨by omega, by omega, by omega, by omega⟩, fun hc => ret _ ?_, fun hc => ⟨by omega, x + 1, ⟨by omega, ?_⟩, by omega, by omega⟩⟩
    · cases hq : sawB v w with
      | false => rfl
      | true =>
        have := (sawF_all _).1 hq x hxl
        omega
    · unfold sawF; rw [hs, decide_eq_true (by omega)]; rfl
  · have : x = v.1.length := by omega
    subst this; exact hs
theorem okRSaw : PlainOk Tryd.prog [] 62 cRSaw := by
  refine plain_of (CxOk.mk' Eg_ok (by kernel_rfl) mixed (gl := []) GOk.nil GoOk.nil noIt) Tryd.func62 (c := Tryd.f62.body.getD .skip) (rvs := [(.tmp 4, .bool)]) (by kernel_rfl) (by kernel_rfl) (by kernel_rfl) ?_
  intro ds k ⟨hp, hk⟩ hwf
  obtain ⟨v, w, rfl, hw, -⟩ := dest2 hp
  exact ⟨anRSaw v w, rsaw_vc v w hw (wf2 hwf).1.1.1 k hk⟩
theorem lexL_at : ∀ (i : Nat) (v w : List Int), v.take i = w.take i → i < v.length → i < w.length → v.getD i 0 ≠ w.getD i 0 → (lexL v w < 0 ↔ v.getD i 0 < w.getD i 0)
  | _, [], _, _, h, _, _ => by simp at h
  | _, _ :: _, [], _, _, h, _ => by simp at h
  | 0, x :: a, y :: b, _, _, _, hne => by
    have hne : x ≠ y := hne
    show (if cmpI x y = 0 then lexL a b else cmpI x y) < 0 ↔ x < y
    rw [if_neg fun e => hne (cmpI_z.1 e)]
    exact cmpI_lt
  | i + 1, x :: a, y :: b, ht, h1, h2, hne => by
    have ht' : x :: a.take i = y :: b.take i := ht
    injection ht' with e1 e2
    subst e1
    show (if cmpI x x = 0 then lexL a b else cmpI x x) < 0 ↔ a.getD i 0 < b.getD i 0
    rw [if_pos (cmpI_z.2 rfl)]
    exact lexL_at i a b e2 (by simpa using h1) (by simpa using h2) hne
theorem rbef_vc (v w : Va) (hw : v.1.length = w.1.length) (hl : v.1.length ≤ maxLen) (k : List Dat → Prop) (hk : k [⟨.bool, befB v w⟩]) : vcF ⟨Eg, [], [], [], []⟩ (anRBef v w) (Tryd.f63.body.getD .skip) Tryd.f63.ntmps [(.tmp 4, .bool)] [⟨tV, v⟩, ⟨tV, w⟩] k := by
  rw [vcRBef]
  have hml : maxLen ≤ 9223372036854775807 := by decide
  have ret : ∀ x : Bool, befB v w = x → k [⟨.bool, x⟩] := by rintro _ rfl; exact hk
  simp only [decide_eq_true_eq, decide_eq_false_iff_not, true_and, and_true, Int.toNat_natCast, inK_i64, Bool.not_eq_true', Bool.not_eq_false']
  refine ⟨⟨0, ⟨Nat.zero_le _, by simp⟩, rfl⟩, fun x ⟨hx, hs⟩ => ⟨fun hlt => ?_, fun hge => ret _ ?_⟩⟩
  · have hxl : x < v.1.length := by omega
    refine ⟨⟨by omega, by omega, by omega, by omega⟩, fun hc => ⟨⟨by omega, by omega, by omega, by omega⟩, ret _ ?_⟩, fun hc => ⟨by omega, x + 1, ⟨by omega, take_succ_eq hxl (by omega) hs _ hc⟩, by omega, by omega⟩⟩
    unfold befB
    have := lexL_at x v.1 w.1 hs hxl (by omega) hc
    by_cases h : v.1.getD x 0 < w.1.getD x 0
    · rw [decide_eq_true h, decide_eq_true (this.2 h)]
    · rw [decide_eq_false h, decide_eq_false fun e => h (this.1 e)]
  · have hxl : x = v.1.length := by omega
    rw [hxl, List.take_length, hw, List.take_length] at hs
    unfold befB
    rw [hs, lexL_zero.2 rfl]; rfl
theorem okRBef : PlainOk Tryd.prog [] 63 cRBef := by
  refine plain_of (CxOk.mk' Eg_ok (by kernel_rfl) mixed (gl := []) GOk.nil GoOk.nil noIt) Tryd.func63 (c := Tryd.f63.body.getD .skip) (rvs := [(.tmp 4, .bool)]) (by kernel_rfl) (by kernel_rfl) (by kernel_rfl) ?_
  intro ds k ⟨hp, hk⟩ hwf
  obtain ⟨v, w, rfl, hw, -⟩ := dest2 hp
  exact ⟨anRBef v w, rbef_vc v w hw (wf2 hwf).1.1.1 k hk⟩

theorem filtV_step (l : List Va) (p : Va → Bool) {x : Nat} (h : x < l.length) : (l.take (x + 1)).filter p = (l.take x).filter p ++ (if p (l.getD x va0) = true then [l.getD x va0] else []) := by
  rw [List.take_succ_eq_append_getElem h, List.filter_append, List.getD_eq_getElem?_getD, List.getElem?_eq_getElem h]
  simp only [Option.getD_some, List.filter_cons, List.filter_nil]
theorem filtV_len (l : List Va) (p : Va → Bool) (x : Nat) : ((l.take x).filter p).length ≤ l.length := Nat.le_trans (List.length_filter_le ..) (by rw [List.length_take]; omega)
theorem anyS_step {l : List Va} {v : Va} {x : Nat} (h : x < l.length) (h0 : anyS (l.take x) v = false) : anyS (l.take (x + 1)) v = sawB (l.getD x va0) v := by
  unfold anyS at h0 ⊢
  rw [List.take_succ_eq_append_getElem h, List.any_append, h0, List.getD_eq_getElem?_getD, List.getElem?_eq_getElem h]; simp
theorem anyS_of {l : List Va} {v : Va} {x : Nat} (h : x < l.length) (h1 : sawB (l.getD x va0) v = true) : anyS l v = true := List.any_eq_true.2 ⟨_, getD_memL h, h1⟩
theorem keep_vc (l : List Va) (v : Va) (hl : l.length ≤ 1000) (hs : ∀ u ∈ l, u.1.length = v.1.length) (k : List Dat → Prop) (hk : k [⟨.sl tV, keepF l v⟩]) :
    vcF ⟨Eg, [(62, cRSaw), (63, cRBef)], [], [], []⟩ (anKeep l v) (Tryd.f48.body.getD .skip) Tryd.f48.ntmps [(.tmp 4, .sl tV)] [⟨.sl tV, l⟩, ⟨tV, v⟩] k := by
  rw [vcKeep]
  have e1 : ∀ y : Va, (List.replicate 1 va0).set 0 y = [y] := fun _ => rfl
  have ea : ∀ (m n : List Va), List.append m n = m ++ n := fun _ _ => rfl
  have lo : ∀ u, (!sawB v u && befB u v) = loA v u := fun _ => rfl
  have hi : ∀ u, (!sawB v u && befB v u) = hiA v u := fun _ => rfl
  simp only [e1, ea, lo, hi, decide_eq_true_eq, decide_eq_false_iff_not, true_and, and_true, Int.toNat_natCast, inK_i64, Bool.not_eq_true', Bool.not_eq_false', implies_true]
  have hx' : ∀ x, x < l.length → (l.getD x va0).1.length = v.1.length := fun x hx => hs _ (getD_memL hx)
  have l1 := filtV_len l (loA v)
  have l2 := filtV_len l (hiA v)
  have l1' := l1 l.length
  rw [List.take_length] at l1'
  refine ⟨⟨0, ⟨Nat.zero_le _, rfl⟩, rfl⟩, fun x ⟨hx, hno⟩ => ⟨fun hlt => ?_, fun hge => ?_⟩⟩
  · have hxl : x < l.length := by omega
    have := hx' x hxl
    refine ⟨⟨by omega, hlt, by omega⟩, fun h => ?_, fun h => ⟨by omega, x + 1, ⟨by omega, by rw [anyS_step hxl hno]; exact h⟩, by omega, by omega⟩⟩
    unfold keepF at hk; rw [if_pos (anyS_of hxl h)] at hk; exact hk
  · have hxl : x = l.length := by omega
    rw [hxl, List.take_length] at hno
    unfold keepF at hk; rw [if_neg (by rw [hno]; decide)] at hk
    refine ⟨⟨0, ⟨Nat.zero_le _, hno⟩, rfl, rfl⟩, fun y ⟨hy, _⟩ => ⟨fun hly => ?_, fun hgy => ?_⟩⟩
    · have hyl : y < l.length := by omega
      have hyv := hx' y hyl
      have ll := l1 y
      refine ⟨⟨by omega, hly, by omega, fun _ => ⟨by omega, hly, hyv⟩⟩, fun h => ⟨by omega, hly, ?_, by omega, y + 1, ⟨by omega, hno⟩, by omega, by omega, ?_⟩, fun h => ⟨by omega, y + 1, ⟨by omega, hno⟩, by omega, by omega, ?_⟩⟩
      · simp only [List.length_cons, List.length_nil]; omega
      · rw [filtV_step _ _ hyl, if_pos h]
      · rw [filtV_step _ _ hyl, if_neg (by rw [h]; decide), List.append_nil]
    · have hyl : y = l.length := by omega
      subst hyl
      rw [List.take_length]
      refine ⟨?_, ⟨0, ⟨Nat.zero_le _, hno⟩, rfl, by simp⟩, fun z ⟨hz, _⟩ => ⟨fun hlz => ?_, fun hgz => ?_⟩⟩
      · simp only [List.length_cons, List.length_nil]; omega
      · have hzl : z < l.length := by omega
        have hzv := hx' z hzl
        have ll := l2 z
        refine ⟨⟨by omega, hlz, by omega, fun _ => ⟨by omega, hlz, hzv.symm⟩⟩, fun h => ⟨by omega, hlz, ?_, by omega, z + 1, ⟨by omega, hno⟩, by omega, by omega, ?_⟩, fun h => ⟨by omega, z + 1, ⟨by omega, hno⟩, by omega, by omega, ?_⟩⟩
        · simp only [List.length_append, List.length_cons, List.length_nil]; omega
        · rw [filtV_step _ _ hzl, if_pos h]; simp only [List.append_assoc]
        · rw [filtV_step _ _ hzl, if_neg (by rw [h]; decide), List.append_nil]
      · have hzl : z = l.length := by omega
        subst hzl
        rw [List.take_length]; exact hk
theorem okKeep : PlainOk Tryd.prog [] 48 cKeep := by
  refine plain_of (CxOk.mk' Eg_ok (by kernel_rfl) mixed (gl := []) (GOk.cons okRSaw Tryd.func62 (by kernel_rfl) (by kernel_rfl) (GOk.cons okRBef Tryd.func63 (by kernel_rfl) (by kernel_rfl) GOk.nil)) GoOk.nil noIt) Tryd.func48 (c := Tryd.f48.body.getD .skip) (rvs := [(.tmp 4, .sl tV)]) (by kernel_rfl) (by kernel_rfl) (by kernel_rfl) ?_
  intro ds k ⟨hp, hk⟩ hwf
  obtain ⟨l, v, rfl, ⟨h1, h2⟩, -⟩ := dest2 hp
  exact ⟨anKeep l v, keep_vc l v h1 h2 k hk⟩
theorem okRow : PlainOk Tryd.prog [] 46 cRow := by
  refine plain_of (CxOk.mk' Eg_ok (by kernel_rfl) mixed (gl := []) GOk.nil GoOk.nil noIt) Tryd.func46 (c := Tryd.f46.body.getD .skip) (rvs := [(.tmp 6, .sl (.sl tV))]) (by kernel_rfl) (by kernel_rfl) (by kernel_rfl) ?_
  intro ds k ⟨hp, hk⟩ hwf
  obtain ⟨l, i, x, rfl, ⟨⟨h0, h1⟩, h2⟩, -⟩ := dest3 hp
  refine ⟨[joinAll], ?_⟩
  rw [vcRow]
  have e1 : ∀ y : List Va, (List.replicate 1 ([] : List Va)).set 0 y = [y] := fun _ => rfl
  have ea : ∀ (m n : List (List Va)), List.append m n = m ++ n := fun _ _ => rfl
  have i0 : Int.toNat 0 = 0 := rfl
  have i1 : (i + 1).toNat = i.toNat + 1 := by omega
  have hl : ((l.length : Nat) : Int).toNat = l.length := by omega
  simp only [e1, ea, i0, i1, hl, inK_i64, List.drop_zero, List.take_length, List.length_append, List.length_take, List.length_drop, List.length_cons, List.length_nil]
  exact ⟨Int.le_refl _, h0, by omega, by omega, by omega, by omega, by omega, by omega, by omega, by omega, hk⟩
end Go.Proofs.YtgcliogognkdkaaDoor

/- Nets: the reference's writing and telling keep their contracts. -/
namespace Go.Proofs.YtgcliogognkdkaaDoor
open Go.Vc Go.Proofs

theorem seenU_len (t : RN) (p q : Int) (i : Nat) : (seenU t p q i).length = i := by unfold seenU; rw [List.length_map, List.length_range]
theorem seenU_succ (t : RN) (p q : Int) (i : Nat) : seenU t p q (i + 1) = seenU t p q i ++ [if (i : Int) = p then (rUp t p).getD p.toNat 0 else mxF (rAt t p q) i (rAt t p q).length] := by
  unfold seenU; rw [List.range_succ, List.map_append]; rfl
theorem mxF_succ (l : List Va) (i k : Nat) : mxF l i (k + 1) = if mxF l i k < (l.getD k va0).1.getD i 0 then (l.getD k va0).1.getD i 0 else mxF l i k := rfl
theorem inB_iff {n a b : Int} : inB n a b = true ↔ a ≤ n ∧ n ≤ b := by unfold inB; rw [Bool.and_eq_true, decide_eq_true_eq, decide_eq_true_eq]
theorem rwrite_vc (t : RN) (p q v : Int) (S : RSh t) (k : List Dat → Prop) (hk : k [⟨tRN, rWriteT t p q v⟩, ⟨I, rWriteE t p q v⟩]) :
    vcF ⟨Eh [], [(45, cWithin), (46, cRow)], [], [], []⟩ (anRWrite t p q v) (Tryd.f25.body.getD .skip) Tryd.f25.ntmps [(.cell 8 57, tRN), (.tmp 9, I)] [⟨tRN, t⟩, ⟨I, p⟩, ⟨I, q⟩, ⟨I, v⟩] k := by
  rw [vcRWrite]
  have eU : List.set t.2.2.1 p.toNat (List.getD t.2.2.1 p.toNat 0 + 1) = rUp t p := rfl
  have eA : List.getD t.2.1 (p * 4 + q).toNat [] = rAt t p q := rfl
  have e1 : ∀ y : Va, (List.replicate 1 va0).set 0 y = [y] := fun _ => rfl
  have e2 : ∀ y : Int, (List.replicate 1 (0 : Int)).set 0 y = [y] := fun _ => rfl
  have ea : ∀ (m n : List Int), List.append m n = m ++ n := fun _ _ => rfl
  have hul : (rUp t p).length = t.2.2.1.length := by unfold rUp; rw [List.length_set]
  have h1 := S.lo
  have h5 := S.hi
  have hh := S.has
  have hw := S.wr
  have hal : (rAt t p q).length ≤ 1000 := S.len _
  have has : ∀ x, x < (rAt t p q).length → (((rAt t p q).getD x va0).1.length : Int) = t.1 := fun x hx => S.seen _ _ (getD_memL hx)
  simp only [eU, eA, e1, e2, ea, hul, seenU_len, decide_eq_true_eq, decide_eq_false_iff_not, true_and, and_true, Int.toNat_natCast, inK_i64, Bool.not_eq_true', Bool.not_eq_false']
  have ret : ∀ e : Int, e ≠ 0 → rWriteE t p q v = e → k [⟨tRN, t⟩, ⟨I, e⟩] := by
    intro e he h
    unfold rWriteT at hk; rw [if_neg (by rw [h]; exact he), h] at hk; exact hk
  refine ⟨by omega, fun h => ret 1 (by decide) (by unfold rWriteE; rw [h]; rfl), fun hp => ⟨fun h => ret 1 (by decide) (by unfold rWriteE; rw [h, Bool.false_and, Bool.and_false]; rfl), fun hq => ⟨fun h => ret 1 (by decide) (by unfold rWriteE; rw [h, Bool.and_false, Bool.and_false]; rfl), fun hv => ?_⟩⟩⟩
  obtain ⟨p0, p1⟩ := inB_iff.1 hp
  obtain ⟨q0, q1⟩ := inB_iff.1 hq
  have hE : rWriteE t p q v = if 60 ≤ t.2.2.1.getD p.toNat 0 then 4 else 0 := by unfold rWriteE; rw [hp, hq, hv]; rfl
  have hc := S.cnt p.toNat (by omega)
  refine ⟨p0, by omega, fun h => ret 4 (by decide) (by rw [hE, if_pos h]), fun h60 => ?_⟩
  have h0 : rWriteE t p q v = 0 := by rw [hE, if_neg h60]
  unfold rWriteT at hk; rw [if_pos h0, h0] at hk
  refine ⟨by omega, p0, by omega, by omega, p0, by omega, ⟨0, ⟨Nat.zero_le _, h0⟩, rfl, rfl, rfl⟩, fun x ⟨hx, _⟩ => ⟨fun hlt => ?_, fun hge => ?_⟩⟩
  · refine ⟨by omega, by omega, by omega, by omega, ⟨0, ⟨Nat.zero_le _, h0⟩, rfl, rfl⟩, fun y ⟨hy, _⟩ => ⟨fun hly => ?_, fun hgy => ?_⟩⟩
    · have hyl : y < (rAt t p q).length := by omega
      have hys := has y hyl
      refine ⟨by omega, hly, by omega, by omega, fun hm => ⟨by omega, hly, by omega, by omega, by omega, y + 1, ⟨by omega, h0⟩, by omega, by rw [mxF_succ, if_pos hm], by omega⟩, fun hm => ⟨by omega, y + 1, ⟨by omega, h0⟩, by omega, by rw [mxF_succ, if_neg hm], by omega⟩⟩
    · have hyl : y = (rAt t p q).length := by omega
      subst hyl
      refine ⟨fun hxp => ⟨p0, by omega, ?_, by omega, x + 1, ⟨by omega, h0⟩, by omega, by omega, by rw [seenU_succ, if_pos hxp]⟩, fun hxp => ⟨?_, by omega, x + 1, ⟨by omega, h0⟩, by omega, by omega, by rw [seenU_succ, if_neg hxp]⟩⟩ <;> simp only [List.length_cons, List.length_nil] <;> omega
  · have hxl : x = t.1.toNat := by omega
    rw [hxl]
    exact ⟨by omega, by omega, ⟨⟨by omega, by omega⟩, by omega⟩, hk⟩
theorem okRWrite : PlainOk Tryd.prog [] 25 cRWrite := by
  refine plain_of (CxOk.mk' (Eh_ok []) (by kernel_rfl) mixed (gl := []) (GOk.cons okRIn5 Tryd.func45 (by kernel_rfl) (by kernel_rfl) (GOk.cons okRow Tryd.func46 (by kernel_rfl) (by kernel_rfl) GOk.nil)) GoOk.nil noIt) Tryd.func25 (c := Tryd.f25.body.getD .skip) (rvs := [(.cell 8 57, tRN), (.tmp 9, I)]) (by kernel_rfl) (by kernel_rfl) (by kernel_rfl) ?_
  intro ds k ⟨hp, hk⟩ hwf
  obtain ⟨t, p, q, v, rfl, S, -⟩ := dest4 hp
  exact ⟨anRWrite t p q v, rwrite_vc t p q v S k hk⟩

/-! Telling. -/
theorem setR_eq {l : List (List Va)} {i : Int} (h0 : 0 ≤ i) (h : i < (l.length : Int)) (x : List Va) : setR l i x = l.set i.toNat x := by
  unfold setR; rw [List.set_eq_take_append_cons_drop, if_pos (by omega)]; simp
theorem rSyncU_has {t : RN} {a b : Int} (h0 : 0 ≤ b) (hb : b * 4 + 3 < (t.2.1.length : Int)) : ∀ k, k ≤ 4 → (rSyncU t a b k).2.1.length = t.2.1.length
  | 0, _ => rfl
  | k + 1, hk => by
    have ih := rSyncU_has (t := t) (a := a) (b := b) h0 hb k (by omega)
    show (setR _ _ _).length = _
    rw [setR_eq (by omega) (by rw [ih]; omega), List.length_set, ih]
theorem rSyncU_1 (t : RN) (a b : Int) : ∀ k, (rSyncU t a b k).1 = t.1
  | 0 => rfl
  | _ + 1 => rfl
theorem rSyncU_3 (t : RN) (a b : Int) : ∀ k, (rSyncU t a b k).2.2.1 = t.2.2.1
  | 0 => rfl
  | _ + 1 => rfl
theorem rAt_sync {t : RN} {a b : Int} (h0 : 0 ≤ b) (hb : b * 4 + 3 < (t.2.1.length : Int)) : ∀ k, k ≤ 4 → ∀ (i j : Nat), j < 4 → rAt (rSyncU t a b k) (i : Int) (j : Int) = if (i : Int) = b ∧ j < k then keepU (rAt (rSyncU t a b j) b (j : Int)) (rAt (rSyncU t a b j) a (j : Int)) (rAt (rSyncU t a b j) a (j : Int)).length else rAt t (i : Int) (j : Int)
  | 0, _, i, j, _ => by rw [if_neg (by omega)]; rfl
  | k + 1, hk, i, j, hj => by
    have ih := rAt_sync (t := t) (a := a) (b := b) h0 hb k (by omega) i j hj
    have hl := rSyncU_has (t := t) (a := a) (b := b) h0 hb k (by omega)
    have e : rAt (rSyncU t a b (k + 1)) (i : Int) (j : Int) = (setR (rSyncU t a b k).2.1 (b * 4 + (k : Int)) (keepU (rAt (rSyncU t a b k) b (k : Int)) (rAt (rSyncU t a b k) a (k : Int)) (rAt (rSyncU t a b k) a (k : Int)).length)).getD ((i : Int) * 4 + (j : Int)).toNat [] := rfl
    rw [e, setR_eq (by omega) (by rw [hl]; omega), getD_setL _ _ _ _ _ (by rw [hl]; omega)]
    by_cases hc : (i : Int) = b ∧ j = k
    · obtain ⟨h1, h2⟩ := hc
      subst h2
      rw [if_pos (by omega), if_pos (by omega)]
    · rw [if_neg (by omega)]
      show rAt (rSyncU t a b k) (i : Int) (j : Int) = _
      rw [ih]
      by_cases hd : (i : Int) = b ∧ j < k
      · rw [if_pos hd, if_pos (by omega)]
      · rw [if_neg hd, if_neg (by omega)]
theorem keepU_succ (l m : List Va) (i : Nat) : keepU l m (i + 1) = keepF (keepU l m i) (m.getD i va0) := rfl
theorem rsync_vc (t : RN) (a b : Int) (S : RSh t) (hY : rSyncE t a b = 0 → SyOk t a b) (k : List Dat → Prop) (hk : k [⟨tRN, rSyncT t a b⟩, ⟨I, rSyncE t a b⟩]) :
    vcF ⟨Eh [], [(45, cWithin), (46, cRow), (48, cKeep)], [], [], []⟩ (anRSync t a b) (Tryd.f27.body.getD .skip) Tryd.f27.ntmps [(.cell 6 57, tRN), (.tmp 7, I)] [⟨tRN, t⟩, ⟨I, a⟩, ⟨I, b⟩] k := by
  rw [vcRSync]
  have h1 := S.lo
  have h5 := S.hi
  have hh := S.has
  have hw := S.wr
  have eA : ∀ (x : RN) (p : Int) (y : Nat), List.getD x.2.1 (p * 4 + (y : Int)).toNat [] = rAt x p (y : Int) := fun _ _ _ => rfl
  simp only [eA, decide_eq_true_eq, decide_eq_false_iff_not, true_and, and_true, Int.toNat_natCast, inK_i64, Bool.not_eq_true', Bool.not_eq_false']
  have ret : ∀ e : Int, e ≠ 0 → rSyncE t a b = e → k [⟨tRN, t⟩, ⟨I, e⟩] := by
    intro e he h
    unfold rSyncT at hk; rw [if_neg (by rw [h]; exact he), h] at hk; exact hk
  refine ⟨by omega, fun h => ret 1 (by decide) (by unfold rSyncE; rw [h]; rfl), fun ha => ⟨by omega, fun h => ret 1 (by decide) (by unfold rSyncE; rw [h, Bool.and_false]; rfl), fun hb => ⟨fun h => ret 6 (by decide) (by unfold rSyncE; rw [ha, hb, Bool.and_true, if_pos rfl, if_pos h]), fun hab => ?_⟩⟩⟩
  have h0 : rSyncE t a b = 0 := by unfold rSyncE; rw [ha, hb, Bool.and_true, if_pos rfl, if_neg hab]
  obtain ⟨a0, a1⟩ := inB_iff.1 ha
  obtain ⟨b0, b1⟩ := inB_iff.1 hb
  have hY := hY h0
  unfold rSyncT at hk; rw [if_pos h0, h0] at hk
  refine ⟨⟨0, ⟨by omega, h0⟩, rfl, rfl, rfl⟩, fun x ⟨hx, _⟩ => ⟨fun hlt => ?_, fun hge => ?_⟩⟩
  · have hx4 : x < 4 := by omega
    have hl := rSyncU_has (t := t) (a := a) (b := b) b0 (by omega) x (by omega)
    have hra : rAt (rSyncU t a b x) a (x : Int) = rAt t a (x : Int) := by
      have := rAt_sync (t := t) (a := a) (b := b) b0 (by omega) x (by omega) a.toNat x hx4
      rw [if_neg (by omega)] at this
      rwa [show ((a.toNat : Nat) : Int) = a by omega] at this
    have hal : (rAt (rSyncU t a b x) a (x : Int)).length ≤ 1000 := by rw [hra]; exact S.len _
    refine ⟨by omega, by omega, by omega, by omega, ⟨0, ⟨Nat.zero_le _, h0⟩, rfl, rfl⟩, fun y ⟨hy, _⟩ => ⟨by omega, by omega, by omega, by omega, fun hly => ?_, fun hgy => ?_⟩⟩
    · have hyl : y < (rAt (rSyncU t a b x) a (x : Int)).length := by omega
      obtain ⟨y1, y2⟩ := hY x hx4 y hy
      have hms : (((rAt (rSyncU t a b x) a (x : Int)).getD y va0).1.length : Int) = t.1 := by
        have hm := getD_memL (d := va0) hyl
        generalize (rAt (rSyncU t a b x) a (x : Int)).getD y va0 = u at hm ⊢
        rw [hra] at hm
        exact S.seen _ _ hm
      exact ⟨by omega, by omega, by omega, by omega, by omega, hly, ⟨y1, fun u hu => by have := y2 u hu; omega⟩, by omega, y + 1, ⟨by omega, h0⟩, by omega, by rw [keepU_succ], by omega⟩
    · have hyl : y = (rAt (rSyncU t a b x) a (x : Int)).length := by omega
      refine ⟨by omega, by omega, ⟨⟨by omega, by omega⟩, by omega⟩, by omega, x + 1, ⟨by omega, h0⟩, by omega, by omega, ?_⟩
      rw [hyl]
      show ((rSyncU t a b x).1, setR (rSyncU t a b x).2.1 (b * 4 + (x : Int)) _, (rSyncU t a b x).2.2.1, ()) = (t.1, setR (rSyncU t a b x).2.1 (b * 4 + (x : Int)) _, t.2.2.1, ())
      rw [rSyncU_1, rSyncU_3]
  · have hxl : x = 4 := by omega
    subst hxl
    exact hk
theorem okRSync : PlainOk Tryd.prog [] 27 cRSync := by
  refine plain_of (CxOk.mk' (Eh_ok []) (by kernel_rfl) mixed (gl := []) (GOk.cons okRIn5 Tryd.func45 (by kernel_rfl) (by kernel_rfl) (GOk.cons okRow Tryd.func46 (by kernel_rfl) (by kernel_rfl) (GOk.cons okKeep Tryd.func48 (by kernel_rfl) (by kernel_rfl) GOk.nil))) GoOk.nil noIt) Tryd.func27 (c := Tryd.f27.body.getD .skip) (rvs := [(.cell 6 57, tRN), (.tmp 7, I)]) (by kernel_rfl) (by kernel_rfl) (by kernel_rfl) ?_
  intro ds k ⟨hp, hk⟩ hwf
  obtain ⟨t, a, b, rfl, ⟨S, hY⟩, -⟩ := dest3 hp
  exact ⟨anRSync t a b, rsync_vc t a b S hY k hk⟩
end Go.Proofs.YtgcliogognkdkaaDoor

/- Nets: the reference's net is the program's. -/
namespace Go.Proofs.YtgcliogognkdkaaDoor
open Go.Vc

/-! Keeping one value among others. -/
theorem keep_mem {n : Nat} {l : List Va} {v : Va} (hn : ∀ u ∈ l ++ [v], u.1.length = n) (hF : ∀ u ∈ l ++ [v], ∀ w ∈ l ++ [v], u.1 = w.1 → u = w) (hs : SV' l) (ha : ∀ u ∈ l, ∀ w ∈ l, sawB u w = true → u = w) :
    SV' (keepF l v) ∧ ∀ x, x ∈ keepF l v ↔ x ∈ l ++ [v] ∧ ∀ w ∈ l ++ [v], sawB w x = true → w = x := by
  have hv : v ∈ l ++ [v] := List.mem_append_right _ (List.mem_singleton.2 rfl)
  have hl : ∀ {u}, u ∈ l → u ∈ l ++ [v] := fun h => List.mem_append_left _ h
  have tr : ∀ {a b c : Va}, a ∈ l ++ [v] → b ∈ l ++ [v] → sawB a b = true → sawB b c = true → sawB a c = true := fun h1 h2 => saw_trans (by rw [hn _ h1, hn _ h2]; exact Nat.le_refl _)
  have an : ∀ {a b : Va}, a ∈ l ++ [v] → b ∈ l ++ [v] → sawB a b = true → sawB b a = true → a = b := fun h1 h2 h3 h4 => hF _ h1 _ h2 (saw_anti (by rw [hn _ h1, hn _ h2]) h3 h4)
  unfold keepF
  cases hq : anyS l v with
  | true =>
    rw [if_pos rfl]
    obtain ⟨u, hu, huv⟩ := List.any_eq_true.1 hq
    refine ⟨hs, fun x => ⟨fun hx => ⟨hl hx, fun w hw hwx => ?_⟩, fun ⟨hx, hm⟩ => ?_⟩⟩
    · rcases List.mem_append.1 hw with h | h
      · exact ha w h x hx hwx
      · rw [List.mem_singleton] at h; subst h
        have e := ha u hu x hx (tr (hl hu) hw huv hwx)
        subst e
        exact an hw (hl hu) hwx huv
    · rcases List.mem_append.1 hx with h | h
      · exact h
      · rw [List.mem_singleton] at h; subst h
        have := hm u (hl hu) huv
        rw [← this]; exact hu
  | false =>
    rw [if_neg (by decide)]
    have hno : ∀ u ∈ l, sawB u v = false := fun u hu => by
      cases h : sawB u v with
      | false => rfl
      | true =>
        have : anyS l v = true := List.any_eq_true.2 ⟨u, hu, h⟩
        rw [hq] at this; cases this
    have hlo : ∀ u, u ∈ l.filter (loA v) ↔ u ∈ l ∧ sawB v u = false ∧ lexL u.1 v.1 < 0 := fun u => by
      rw [List.mem_filter]; unfold loA befB
      rw [Bool.and_eq_true, Bool.not_eq_true', decide_eq_true_eq]
    have hhi : ∀ u, u ∈ l.filter (hiA v) ↔ u ∈ l ∧ sawB v u = false ∧ lexL v.1 u.1 < 0 := fun u => by
      rw [List.mem_filter]; unfold hiA befB
      rw [Bool.and_eq_true, Bool.not_eq_true', decide_eq_true_eq]
    refine ⟨?_, fun x => ⟨fun hx => ?_, fun ⟨hx, hm⟩ => ?_⟩⟩
    · refine List.pairwise_append.2 ⟨List.pairwise_append.2 ⟨hs.sublist List.filter_sublist, List.pairwise_singleton .., fun a ha b hb => ?_⟩, hs.sublist List.filter_sublist, fun a ha b hb => ?_⟩
      · rw [List.mem_singleton] at hb; subst hb
        exact ((hlo a).1 ha).2.2
      · have hb' := ((hhi b).1 hb).2.2
        rcases List.mem_append.1 ha with h | h
        · exact lexL_trans ((hlo a).1 h).2.2 hb'
        · rw [List.mem_singleton] at h; subst h; exact hb'
    · have key : ∀ y, y ∈ l → sawB v y = false → y ∈ l ++ [v] ∧ ∀ w ∈ l ++ [v], sawB w y = true → w = y := fun y hy hvy => ⟨hl hy, fun w hw hwy => by
        rcases List.mem_append.1 hw with h | h
        · exact ha w h y hy hwy
        · rw [List.mem_singleton] at h; subst h; rw [hvy] at hwy; cases hwy⟩
      rcases List.mem_append.1 hx with h | h
      · rcases List.mem_append.1 h with h | h
        · exact key x ((hlo x).1 h).1 ((hlo x).1 h).2.1
        · rw [List.mem_singleton] at h; subst h
          refine ⟨hv, fun w hw hwx => ?_⟩
          rcases List.mem_append.1 hw with h | h
          · rw [hno w h] at hwx; cases hwx
          · exact List.mem_singleton.1 h
      · exact key x ((hhi x).1 h).1 ((hhi x).1 h).2.1
    · rcases List.mem_append.1 hx with h | h
      · have hvx : sawB v x = false := by
          cases hc : sawB v x with
          | false => rfl
          | true =>
            have e := hm v hv hc
            have := hno x h
            rw [← e, saw_refl] at this; cases this
        have hne : lexL x.1 v.1 ≠ 0 := fun e => by
          have e2 := hF x hx v hv (lexL_zero.1 e)
          have := hno x h
          rw [e2, saw_refl] at this; cases this
        have hneg := lexL_neg x.1 v.1
        by_cases hc : lexL x.1 v.1 < 0
        · exact List.mem_append_left _ (List.mem_append_left _ ((hlo x).2 ⟨h, hvx, hc⟩))
        · exact List.mem_append_right _ ((hhi x).2 ⟨h, hvx, by omega⟩)
      · exact List.mem_append_left _ (List.mem_append_right _ h)
theorem keepF_mrg {n : Nat} {S : List Va} {v : Va} (hn : ∀ u ∈ S ++ [v], u.1.length = n) (hF : ∀ u ∈ S ++ [v], ∀ w ∈ S ++ [v], u.1 = w.1 → u = w) : keepF (mrgV S) v = mrgV (S ++ [v]) := by
  have hS : ∀ {u}, u ∈ S → u ∈ S ++ [v] := fun h => List.mem_append_left _ h
  have hv : v ∈ S ++ [v] := List.mem_append_right _ (List.mem_singleton.2 rfl)
  have hn1 : ∀ u ∈ S, u.1.length = n := fun u h => hn u (hS h)
  have hF1 : ∀ u ∈ S, ∀ w ∈ S, u.1 = w.1 → u = w := fun u h w h' => hF u (hS h) w (hS h')
  have hK : ∀ x, x ∈ mrgV S ↔ _ := fun x => mem_mrgV (v := x) hn1 hF1
  have hKS : ∀ {x}, x ∈ mrgV S ++ [v] → x ∈ S ++ [v] := fun h => (List.mem_append.1 h).elim (fun h => hS ((hK _).1 h).1) fun h => List.mem_append_right _ h
  obtain ⟨h1, h2⟩ := keep_mem (n := n) (l := mrgV S) (v := v) (fun u h => hn u (hKS h)) (fun u h w h' => hF u (hKS h) w (hKS h')) (ss_mrgV S) (fun u hu w hw hs => ((hK w).1 hw).2 u ((hK u).1 hu).1 hs)
  refine SV'.ext h1 (ss_mrgV _) fun x => ?_
  rw [h2, mem_mrgV hn hF]
  constructor
  · rintro ⟨hx, hm⟩
    refine ⟨hKS hx, fun w hw hwx => ?_⟩
    rcases List.mem_append.1 hw with h | h
    · obtain ⟨u, hu, huw⟩ := dom_mrg hn1 hF1 h
      have hus := ((hK u).1 hu).1
      have e := hm u (List.mem_append_left _ hu) (saw_trans (by rw [hn1 u hus, hn w hw]; exact Nat.le_refl _) huw hwx)
      subst e
      exact hF w hw u (hS hus) (saw_anti (by rw [hn w hw, hn1 u hus]) hwx huw)
    · exact hm w (List.mem_append_right _ h) hwx
  · rintro ⟨hx, hm⟩
    refine ⟨?_, fun w hw => hm w (hKS hw)⟩
    rcases List.mem_append.1 hx with h | h
    · exact List.mem_append_left _ ((hK x).2 ⟨h, fun w hw => hm w (hS hw)⟩)
    · exact List.mem_append_right _ h
theorem keepU_eq {n : Nat} {l m : List Va} (hn : ∀ u ∈ l ++ m, u.1.length = n) (hF : ∀ u ∈ l ++ m, ∀ w ∈ l ++ m, u.1 = w.1 → u = w) (hs : SV' l) (ha : ∀ u ∈ l, ∀ w ∈ l, sawB u w = true → u = w) : ∀ i, i ≤ m.length → keepU l m i = mrgV (l ++ m.take i)
  | 0, _ => by
    show l = _
    rw [List.take_zero, List.append_nil]
    have hl : ∀ {u}, u ∈ l → u ∈ l ++ m := fun h => List.mem_append_left _ h
    exact SV'.ext hs (ss_mrgV _) fun x => by
      rw [mem_mrgV (n := n) (fun u h => hn u (hl h)) (fun u h w h' => hF u (hl h) w (hl h'))]
      exact ⟨fun h => ⟨h, fun w hw hwx => ha w hw x h hwx⟩, fun h => h.1⟩
  | i + 1, hi => by
    have hsub : ∀ {u}, u ∈ l ++ m.take i ++ [m[i]] → u ∈ l ++ m := fun h => by
      rcases List.mem_append.1 h with h | h
      · rcases List.mem_append.1 h with h | h
        · exact List.mem_append_left _ h
        · exact List.mem_append_right _ (List.mem_of_mem_take h)
      · rw [List.mem_singleton] at h; subst h
        exact List.mem_append_right _ (List.getElem_mem _)
    rw [keepU_succ, keepU_eq hn hF hs ha i (by omega), List.getD_eq_getElem?_getD, List.getElem?_eq_getElem (show i < m.length by omega), Option.getD_some,
      keepF_mrg (n := n) (fun u h => hn u (hsub h)) (fun u h w h' => hF u (hsub h) w (hsub h')), List.take_succ_eq_append_getElem (show i < m.length by omega), List.append_assoc]

theorem list_ext1 {l m : List Int} (h : l.length = m.length) (he : ∀ j, j < l.length → l.getD j 0 = m.getD j 0) : l = m :=
  List.ext_getElem h fun i h1 h2 => by
    have := he i h1
    rw [List.getD_eq_getElem?_getD, List.getD_eq_getElem?_getD, List.getElem?_eq_getElem h1, List.getElem?_eq_getElem h2] at this
    simpa using this
/-! The two nets. -/
structure Rel (n : Nat) (t : Net) (x : RN) : Prop where
  n1 : x.1 = (n : Int)
  wr : x.2.2.1 = t.2.1
  hl : x.2.1.length = n * 4
  at' : ∀ i k : Nat, i < n → k < 4 → rAt x (i : Int) (k : Int) = vAt t i k
section
variable {n : Nat} {W : Nat → Int → Prop} {H : Nat → Nat → Va → Prop} {t : Net} {x : RN}
theorem Rel.sh (I : NInv n W H t) (R : Rel n t x) : RSh x := by
  have h1 := I.lo
  have h5 := I.hi
  have hat : ∀ i, i < n * 4 → x.2.1.getD i [] = vAt t (i / 4) (i % 4) := fun i hi => by
    rw [← R.at' (i / 4) (i % 4) (by omega) (by omega)]
    show _ = x.2.1.getD (((i / 4 : Nat) : Int) * 4 + ((i % 4 : Nat) : Int)).toNat []
    rw [show (((i / 4 : Nat) : Int) * 4 + ((i % 4 : Nat) : Int)).toNat = i by omega]
  have hout : ∀ i, ¬ i < n * 4 → x.2.1.getD i [] = [] := fun i hi => by
    rw [List.getD_eq_getElem?_getD, List.getElem?_eq_none (by rw [R.hl]; omega)]; rfl
  exact {
    lo := by rw [R.n1]; omega
    hi := by rw [R.n1]; omega
    has := by rw [R.hl, R.n1]; omega
    wr := by rw [R.wr, R.n1, I.wr]
    len := fun i => by
      by_cases h : i < n * 4
      · rw [hat i h]; have := I.few (i / 4) (i % 4); omega
      · rw [hout i h]; exact Nat.zero_le _
    seen := fun i v hv => by
      by_cases h : i < n * 4
      · rw [hat i h] at hv; rw [I.ln hv, R.n1]
      · rw [hout i h] at hv; cases hv
    cnt := by rw [R.wr, I.wr]; exact I.cnt }
theorem Rel.init (n : Nat) : Rel n (newF n) (((n : Int), List.replicate ((n : Int) * 4).toNat [], List.replicate ((n : Int)).toNat 0, ()) : RN) := by
  refine ⟨rfl, by show List.replicate (n : Int).toNat 0 = List.replicate n 0; rw [Int.toNat_natCast], by show (List.replicate _ _).length = _; rw [List.length_replicate]; omega, fun i k hi hk => ?_⟩
  have e1 : rAt (((n : Int), List.replicate ((n : Int) * 4).toNat [], List.replicate ((n : Int)).toNat 0, ()) : RN) (i : Int) (k : Int) = [] := by
    show (List.replicate _ ([] : List Va)).getD _ [] = []
    rcases getD_memD (l := List.replicate ((n : Int) * 4).toNat ([] : List Va)) (i := ((i : Int) * 4 + (k : Int)).toNat) (d := []) with h | ⟨h, -⟩
    · exact (List.mem_replicate.1 h).2
    · exact h
  have e2 : vAt (newF n) i k = [] := by
    have hrow : (List.replicate n (List.replicate 4 ([] : List Va))).getD i (List.replicate 4 []) = List.replicate 4 [] := by
      rcases getD_memD (l := List.replicate n (List.replicate 4 ([] : List Va))) (i := i) (d := List.replicate 4 []) with h | ⟨h, -⟩
      · exact (List.mem_replicate.1 h).2
      · exact h
    unfold vAt newF
    rw [hrow]
    rcases getD_memD (l := (List.replicate 4 [] : List (List Va))) (i := k) (d := ([] : List Va)) with h2 | ⟨h2, -⟩
    · exact (List.mem_replicate.1 h2).2
    · exact h2
  rw [e1, e2]
theorem mxF_acc {vals : List Va} (hn : ∀ v ∈ vals, v.1.length = n) {q : Nat} (hq : q < n) : ∀ k, k ≤ vals.length → mxF vals q k = (accU vals n k).getD q 0
  | 0, _ => by
    unfold accU
    rw [List.getD_eq_getElem?_getD, List.getElem?_replicate, if_pos hq]; rfl
  | k + 1, hk => by
    rw [mxF_succ, accU_succ hn hq (by omega), mxF_acc hn hq k (by omega)]
    split <;> omega
theorem Rel.writeE (I : NInv n W H t) (R : Rel n t x) (p q v : Int) : rWriteE x p q v = Go.Proofs.YtgcliogognkdkaaDoor.writeE t p q v := by
  unfold rWriteE Go.Proofs.YtgcliogognkdkaaDoor.writeE inNet
  rw [R.n1, I.len, R.wr, Bool.and_assoc]
  by_cases hc : (inB p 0 ((n : Int) - 1) && (inB q 0 3 && inB v 0 1000000)) = true
  · rw [if_pos hc, if_pos hc]
    rw [Bool.and_eq_true] at hc
    have hp := inB_iff.1 hc.1
    have := I.cnt p.toNat (by omega)
    by_cases h : t.2.1.getD p.toNat 0 = 60
    · rw [if_pos h, if_pos (by omega)]
    · rw [if_neg h, if_neg (by omega)]
  · rw [if_neg hc, if_neg hc]
theorem Rel.write (I : NInv n W H t) (R : Rel n t x) (p q v : Int) : Rel n (writeT t p q v) (rWriteT x p q v) := by
  have hE := Rel.writeE I R p q v
  unfold writeT rWriteT
  by_cases hne : ¬ Go.Proofs.YtgcliogognkdkaaDoor.writeE t p q v = 0
  · rw [if_neg hne, if_neg (by rw [hE]; exact hne)]; exact R
  have h0 := Decidable.of_not_not hne
  rw [if_pos h0, if_pos (by rw [hE]; exact h0)]
  have hin : inNet t p q = true := by
    unfold Go.Proofs.YtgcliogognkdkaaDoor.writeE at h0
    split at h0
    · rename_i hb; rw [Bool.and_eq_true] at hb; exact hb.1
    · cases h0
  obtain ⟨⟨p0, p1⟩, q0, q1⟩ := inNet_iff.1 hin
  rw [I.len] at p1
  have hpl : p.toNat < t.1.length := by rw [I.len]; omega
  have hrow : (t.1.getD p.toNat (List.replicate 4 [])).length = 4 := I.row _ (getD_memL hpl)
  have hra : rAt x p q = vAt t p.toNat q.toNat := by
    have := R.at' p.toNat q.toNat (by omega) (by omega)
    rwa [show ((p.toNat : Nat) : Int) = p by omega, show ((q.toNat : Nat) : Int) = q by omega] at this
  have hup : rUp x p = upW t p := by unfold rUp upW; rw [R.wr]
  have hseen : seenU x p q x.1.toNat = (newV t p q v).1 := by
    have hn : x.1.toNat = n := by rw [R.n1]; omega
    rw [hn]
    have hvals : valsAt t p q = vAt t p.toNat q.toNat := rfl
    have hnl : (newV t p q v).1.length = n := by
      show (List.set _ _ _).length = n
      rw [List.length_set, accU_len, I.len]
    refine list_ext1 (by rw [seenU_len, hnl]) fun j hj => ?_
    rw [seenU_len] at hj
    have e : (newV t p q v).1.getD j 0 = if j = p.toNat then (upW t p).getD p.toNat 0 else (accU (vAt t p.toNat q.toNat) n (vAt t p.toNat q.toNat).length).getD j 0 := by
      show (List.set _ _ _).getD j 0 = _
      rw [getD_setL _ _ _ _ _ (by rw [accU_len, I.len]; omega), hvals, I.len]
    rw [e]
    unfold seenU
    rw [List.getD_eq_getElem?_getD, List.getElem?_map, List.getElem?_range hj]
    show (if (j : Int) = p then _ else _) = _
    by_cases hjp : (j : Int) = p
    · rw [if_pos hjp, if_pos (by omega), hup]
    · rw [if_neg hjp, if_neg (by omega), hra, mxF_acc (fun w h => I.ln h) hj _ (Nat.le_refl _)]
  refine ⟨R.n1, hup, ?_, fun i k hi hk => ?_⟩
  · show (setR _ _ _).length = _
    rw [setR_eq (by omega) (by rw [R.hl]; omega), List.length_set, R.hl]
  · rw [vAt_set hpl (by rw [hrow]; omega)]
    show (setR x.2.1 (p * 4 + q) [(seenU x p q x.1.toNat, v, ())]).getD ((i : Int) * 4 + (k : Int)).toNat [] = _
    rw [setR_eq (by omega) (by rw [R.hl]; omega), getD_setL _ _ _ _ _ (by rw [R.hl]; omega), hseen]
    by_cases hc : i = p.toNat ∧ k = q.toNat
    · rw [if_pos (by omega), if_pos hc]; rfl
    · rw [if_neg (by omega), if_neg hc]; exact R.at' i k hi hk
theorem Rel.syncE (I : NInv n W H t) (R : Rel n t x) (a b : Int) : rSyncE x a b = Go.Proofs.YtgcliogognkdkaaDoor.syncE t a b := by
  unfold rSyncE Go.Proofs.YtgcliogognkdkaaDoor.syncE inNet
  rw [R.n1, I.len]
  have : inB 0 0 3 = true := by decide
  rw [this, Bool.and_true, Bool.and_true]
theorem Rel.keeps (I : NInv n W H t) (R : Rel n t x) {a b : Int} (h0 : Go.Proofs.YtgcliogognkdkaaDoor.syncE t a b = 0) : (0 ≤ a ∧ a < (n : Int)) ∧ (0 ≤ b ∧ b < (n : Int)) ∧ a ≠ b ∧ ∀ k, k < 4 →
    rAt (rSyncU x a b k) b (k : Int) = vAt t b.toNat k ∧ rAt (rSyncU x a b k) a (k : Int) = vAt t a.toNat k ∧ ∀ i, i ≤ (vAt t a.toNat k).length → keepU (vAt t b.toNat k) (vAt t a.toNat k) i = mrgV (vAt t b.toNat k ++ (vAt t a.toNat k).take i) := by
  obtain ⟨ha, hb, hab⟩ : inNet t a 0 = true ∧ inNet t b 0 = true ∧ a ≠ b := by
    unfold Go.Proofs.YtgcliogognkdkaaDoor.syncE at h0
    cases ha : inNet t a 0 <;> cases hb : inNet t b 0 <;> simp [ha, hb] at h0
    exact ⟨rfl, rfl, h0⟩
  obtain ⟨⟨a0, a1⟩, -⟩ := inNet_iff.1 ha
  obtain ⟨⟨b0, b1⟩, -⟩ := inNet_iff.1 hb
  rw [I.len] at a1 b1
  refine ⟨⟨a0, a1⟩, ⟨b0, b1⟩, hab, fun k hk => ?_⟩
  have hs := fun (i : Nat) => rAt_sync (t := x) (a := a) (b := b) b0 (by rw [R.hl]; omega) k (by omega) i k hk
  have e1 := hs b.toNat
  have e2 := hs a.toNat
  rw [if_neg (by omega), R.at' _ _ (by omega) hk] at e1
  rw [if_neg (by omega), R.at' _ _ (by omega) hk] at e2
  rw [show ((b.toNat : Nat) : Int) = b by omega] at e1
  rw [show ((a.toNat : Nat) : Int) = a by omega] at e2
  have hm : ∀ v ∈ vAt t b.toNat k ++ vAt t a.toNat k, ∃ p, H k p v := fun v h => (List.mem_append.1 h).elim (fun h => I.mem _ _ _ h) fun h => I.mem _ _ _ h
  exact ⟨e1, e2, keepU_eq (n := n) (fun u h => (hm u h).elim fun p hp => I.hl _ _ _ hp) (fun u h w h' e => by
    obtain ⟨p, hp⟩ := hm u h
    obtain ⟨p', hp'⟩ := hm w h'
    exact I.hf k p u p' w hp hp' e) (I.sv _ _) (fun u hu w hw => I.anti _ _ u w hu hw)⟩
theorem Rel.syOk (I : NInv n W H t) (R : Rel n t x) {a b : Int} (h0 : rSyncE x a b = 0) : SyOk x a b := by
  rw [Rel.syncE I R] at h0
  obtain ⟨-, -, -, hK⟩ := Rel.keeps I R h0
  intro k hk i hi
  obtain ⟨e1, e2, e3⟩ := hK k hk
  rw [e2] at hi
  rw [e1, e2, e3 i hi]
  have f1 := I.few b.toNat k
  have f2 := I.few a.toNat k
  have h5 := I.hi
  have hl := mrgV_len (vAt t b.toNat k ++ (vAt t a.toNat k).take i)
  rw [List.length_append, List.length_take] at hl
  refine ⟨by omega, fun u hu => ?_⟩
  rw [R.n1]
  have hmem : u ∈ vAt t b.toNat k ++ (vAt t a.toNat k).take i := by
    unfold mrgV at hu
    rw [(perm_sortV _).mem_iff] at hu
    obtain ⟨j, hj, e, -⟩ := (mem_outU _).1 hu
    rw [← e]; exact getD_memL hj
  rcases List.mem_append.1 hmem with h | h
  · rw [I.ln h]
  · rw [I.ln (List.mem_of_mem_take h)]
theorem Rel.sync (I : NInv n W H t) (R : Rel n t x) (a b : Int) : Rel n (syncT t a b) (rSyncT x a b) := by
  have hE := Rel.syncE I R a b
  unfold syncT rSyncT
  by_cases hne : ¬ Go.Proofs.YtgcliogognkdkaaDoor.syncE t a b = 0
  · rw [if_neg hne, if_neg (by rw [hE]; exact hne)]; exact R
  have h0 := Decidable.of_not_not hne
  rw [if_pos h0, if_pos (by rw [hE]; exact h0)]
  obtain ⟨⟨a0, a1⟩, ⟨b0, b1⟩, hab, hK⟩ := Rel.keeps I R h0
  refine ⟨by rw [rSyncU_1]; exact R.n1, by rw [rSyncU_3, syncU_wr]; exact R.wr, by rw [rSyncU_has b0 (by rw [R.hl]; omega) 4 (Nat.le_refl _)]; exact R.hl, fun i k hi hk => ?_⟩
  rw [vAt_sync I.row (by omega) (by rw [I.len]; omega) i k 4 (Nat.le_refl _), rAt_sync b0 (by rw [R.hl]; omega) 4 (Nat.le_refl _) i k hk]
  by_cases hc : (i : Int) = b
  · rw [if_pos ⟨hc, hk⟩, if_pos (by omega)]
    obtain ⟨e1, e2, e3⟩ := hK k hk
    rw [e1, e2, e3 _ (Nat.le_refl _), List.take_length]
  · rw [if_neg (fun h => hc h.1), if_neg (by omega)]; exact R.at' i k hi hk
end
end Go.Proofs.YtgcliogognkdkaaDoor

namespace Go.Proofs.YtgcliogognkdkaaDoor
open Go.RowKit Go.Extern.Stop Go.Stop Go.Extern

/-- errors.As(nil, target). -/
theorem as_nil (t : Value) (w : World) :
    Calls Tryd.prog 55 #[.nilIface, t] w fun e w' => e = .returned (.bool false) ∧ w' = w := by
  go_enter Tryd.func55, Tryd.ntmps55
  go_wp2
  go_ret
  exact ⟨rfl, rfl⟩

/-! ### CLOSED FACTS ON THE MODEL's ENTRIES FOR internal/reflectlite, at this program's types: 25: *p.E · 27: **p.E · 23: error · 45: reflectlite's rtype · 1: how many package-level variables the dump has -/
theorem Tas.valueOf27 (t : Addr) (w : World) : (ReflectliteValue.unpack (.iface 96 (.pointer (some t)))).run Tryd.prog w
    = .ok (.agg #[.pointer (some ⟨1, 96, none⟩), .pointer (some ⟨w.heap.size, 0, none⟩), .int .u64 150]) (w.alloc (.cells #[.pointer (some t)] 96)) := by kernel_rfl
theorem Tas.type27 (a : Addr) (w : World) : (ReflectliteValue.methodAny (ReflectliteValue.valueError "reflectlite.Value.Type" 0) (fun t _ _ _ => ReflectliteType.toType t) #[.agg #[.pointer (some ⟨1, 96, none⟩), .pointer (some a), .int .u64 150]]).run Tryd.prog w
    = .ok (.iface 136 (.agg #[.pointer (some ⟨1, 96, none⟩)])) w := by kernel_rfl
theorem Tas.methodKind (h : Value) (w : World) : (Go.method 295 136 (.agg #[h]) "Kind").run Tryd.prog w = .ok (119, h) w := by kernel_rfl
theorem Tas.kind27 (w : World) : ((ReflectliteType.abiMethod fun t => (fun a : Nat => Value.int IntKind.u8 (a : Int)) <$> Rtype.kind t) #[.pointer (some ⟨1, 96, none⟩)]).run Tryd.prog w = .ok (.int .u8 22) w := by kernel_rfl
theorem Tas.kind25 (w : World) : ((ReflectliteType.abiMethod fun t => (fun a : Nat => Value.int IntKind.u8 (a : Int)) <$> Rtype.kind t) #[.pointer (some ⟨1, 69, none⟩)]).run Tryd.prog w = .ok (.int .u8 2) w := by kernel_rfl

/-! ### THE ENTRIES THAT READ OR WRITE MEMORY: laws with a premise on the cell (after Derived/Lib/ReflectliteSlice.lean's manner: each unfolding a lemma of its own, by rfl) -/
theorem rlm (z : Sem Value) (f : TypeId → Addr → Nat → Nat → Sem Value) (v : Value) :
    ReflectliteValue.method z f #[v] = (do match ← ReflectliteValue.parts v with | none => z | some (t, a, fl) => f t a fl (fl % 32)) := rfl
theorem Tas.parts27 (a : Addr) (w : World) : (ReflectliteValue.parts (.agg #[.pointer (some ⟨1, 96, none⟩), .pointer (some a), .int .u64 150])).run Tryd.prog w = .ok (some (96, a, 150)) w := by kernel_rfl
/-- (Value).IsNil at the Value of a **p.E that is not nil. -/
theorem Tas.isNil27 (a p : Addr) (W : World) (ha : W.cell? a = some (.pointer (some p))) :
    (ReflectliteValue.method (ReflectliteValue.valueError "reflectlite.Value.IsNil" 0) ReflectliteValue.isNil #[.agg #[.pointer (some ⟨1, 96, none⟩), .pointer (some a), .int .u64 150]]).run Tryd.prog W = .ok (.bool false) W := by
  rw [rlm]
  simp only [Sem.run_bind, Tas.parts27, Result.andThen]
  simp [ReflectliteValue.isNil, loadVar, isAgg, underlying, Tryd.underlying96, ha, Result.andThen]

theorem Tas.methodElem (h : Value) (w : World) : (Go.method 295 136 (.agg #[h]) "Elem").run Tryd.prog w = .ok (129, .agg #[h]) w := by kernel_rfl
theorem Tas.methodImplements (h : Value) (w : World) : (Go.method 295 136 (.agg #[h]) "Implements").run Tryd.prog w = .ok (130, .agg #[h]) w := by kernel_rfl
theorem Tas.methodAssignableTo (h : Value) (w : World) : (Go.method 295 136 (.agg #[h]) "AssignableTo").run Tryd.prog w = .ok (127, .agg #[h]) w := by kernel_rfl
theorem Tas.elem27 (w : World) : (ReflectliteType.method ReflectliteType.elem #[.agg #[.pointer (some ⟨1, 96, none⟩)]]).run Tryd.prog w = .ok (.iface 136 (.agg #[.pointer (some ⟨1, 69, none⟩)])) w := by kernel_rfl
theorem Tas.implements25 (w : World) : (ReflectliteType.relation "Implements" ReflectliteType.implements_ #[.agg #[.pointer (some ⟨1, 69, none⟩)], .iface 136 (.agg #[.pointer (some ⟨1, 29, none⟩)])]).run Tryd.prog w = .ok (.bool true) w := by kernel_rfl
theorem Tas.typeOf25 (v : Value) (w : World) : (ReflectliteType.typeOf #[.iface 69 v]).run Tryd.prog w = .ok (.iface 136 (.agg #[.pointer (some ⟨1, 69, none⟩)])) w := by kernel_rfl
theorem Tas.assignable25 (w : World) : (ReflectliteType.relation "AssignableTo" ReflectliteType.assignableTo #[.agg #[.pointer (some ⟨1, 69, none⟩)], .iface 136 (.agg #[.pointer (some ⟨1, 69, none⟩)])]).run Tryd.prog w = .ok (.bool true) w := by kernel_rfl
theorem Tas.valueOf25 (e : Int) (w : World) : (ReflectliteValue.unpack (.iface 69 (.int .i64 e))).run Tryd.prog w
    = .ok (.agg #[.pointer (some ⟨1, 69, none⟩), .pointer (some ⟨w.heap.size, 0, none⟩), .int .u64 130]) (w.alloc (.cells #[.int .i64 e] 69)) := by kernel_rfl

theorem Tas.elemOf27 (w : World) : (Rtype.elem? 96).run Tryd.prog w = .ok (some 69) w := by kernel_rfl
theorem Tas.mk25 (p : Addr) (w : World) : (ReflectliteValue.mk 69 p ReflectliteValue.flagAddr).run Tryd.prog w = .ok (.agg #[.pointer (some ⟨1, 69, none⟩), .pointer (some p), .int .u64 386]) w := by kernel_rfl
/-- (Value).Elem at the Value of a **p.E that is not nil: the Value of the *p.E variable that it points to, addressable. -/
theorem Tas.elemV27 (a p : Addr) (W : World) (ha : W.cell? a = some (.pointer (some p))) :
    (ReflectliteValue.method (ReflectliteValue.valueError "reflectlite.Value.Elem" 0) ReflectliteValue.elem #[.agg #[.pointer (some ⟨1, 96, none⟩), .pointer (some a), .int .u64 150]]).run Tryd.prog W
      = .ok (.agg #[.pointer (some ⟨1, 69, none⟩), .pointer (some p), .int .u64 386]) W := by
  rw [rlm]
  simp only [Sem.run_bind, Tas.parts27, Result.andThen]
  simp [ReflectliteValue.elem, loadVar, isAgg, underlying, Tryd.underlying96, ha, Result.andThen, Tas.elemOf27, Tas.mk25]
theorem rls (v x : Value) : ReflectliteValue.set #[v, x] = (do
    let (some (dst, a, fl), some (src, b, _)) := (← ReflectliteValue.parts v, ← ReflectliteValue.parts x)
      | unsupported (.noEntry "extern/(internal/reflectlite.Value).Set.zeroValue")
    if fl / ReflectliteValue.flagAddr % 2 == 0 then unsupported (.noEntry "extern/(internal/reflectlite.Value).Set.unaddressable")
    let val ← loadVar src b
    if ← Rtype.directlyAssignable dst src then storeVar dst a val
    else if ← Rtype.implements dst src then
      if (← Rtype.kind src) == 20 then
        match val with
        | .nilIface => unsupported (.noEntry "extern/reflectlite: a nil value of one interface type handed on as a value of another")
        | _ => storeVar dst a val
      else storeVar dst a (.iface src val)
    else panicString ("reflectlite.Set: value of type " ++ (← Rtype.spelt src) ++ " is not assignable to type " ++ (← Rtype.spelt dst))
    pure (.tuple #[])) := rfl
theorem Tas.parts25a (a : Addr) (w : World) : (ReflectliteValue.parts (.agg #[.pointer (some ⟨1, 69, none⟩), .pointer (some a), .int .u64 386])).run Tryd.prog w = .ok (some (69, a, 386)) w := by kernel_rfl
theorem Tas.parts25 (a : Addr) (w : World) : (ReflectliteValue.parts (.agg #[.pointer (some ⟨1, 69, none⟩), .pointer (some a), .int .u64 130])).run Tryd.prog w = .ok (some (69, a, 130)) w := by kernel_rfl
theorem Tas.direct25 (w : World) : (Rtype.directlyAssignable 69 69).run Tryd.prog w = .ok true w := by kernel_rfl
theorem Tas.size25 (w : World) : (sizeOf 69).run Tryd.prog w = .ok 1 w := by kernel_rfl
/-- (Value).Set: the *p.E variable at 'ta' gets what the Value's own variable 'b' holds. -/
theorem Tas.set25 (ta b : Addr) (e : Int) (old : Value) (W : World) (hb : W.cell? b = some (.int .i64 e)) (ht : W.cell? ta = some old) (hf : W.frozen? ta = false) :
    (ReflectliteValue.set #[.agg #[.pointer (some ⟨1, 69, none⟩), .pointer (some ta), .int .u64 386], .agg #[.pointer (some ⟨1, 69, none⟩), .pointer (some b), .int .u64 130]]).run Tryd.prog W
      = .ok (.tuple #[]) (W.setCell ta (.int .i64 e)) := by
  rw [rls]
  simp only [Sem.run_bind, Tas.parts25a, Tas.parts25, Result.andThen]
  simp [ReflectliteValue.flagAddr, loadVar, isAgg, underlying, Tryd.underlying69, hb, Result.andThen, Tas.direct25, storeVar, Value.cells, storeCells, Addr.add]
  rw [run_store Tryd.prog W ta _ _ (by rfl)]
  simp [ht, hf]

set_option maxRecDepth 100000 in
set_option maxHeartbeats 4000000 in
theorem as_hit (e : Int) (t : Addr) (old : Value) (w : World) (hg : w.cell? ⟨0, 0, none⟩ = some (.iface 136 (.agg #[.pointer (some ⟨1, 29, none⟩)]))) (ht0 : w.cell? t = some old) (hf0 : w.frozen? t = false) :
    Calls Tryd.prog 55 #[.iface 69 (.int .i64 e), .iface 96 (.pointer (some t))] w fun ev w' => ev = .returned (.bool true) ∧ w' = ((((w.alloc (.cells #[.pointer (some t)] 96)).alloc (.cells #[.pointer (some ⟨1, 96, none⟩), .pointer (some ⟨w.heap.size, 0, none⟩), .int .u64 150] 111)).alloc (.cells #[.pointer (some ⟨1, 96, none⟩), .pointer (some ⟨w.heap.size, 0, none⟩), .int .u64 150] 111)).alloc (.cells #[.int .i64 e] 69)).setCell t (.int .i64 e) := by
  have h6 := @run_callFunc_extern Tryd.prog 68 _ (fun args => ReflectliteValue.unpack (args.getD 0 (.tuple #[]))) Tryd.func68 (by kernel_rfl) (by kernel_rfl) (by kernel_rfl) (by kernel_rfl)
  have h7 := @run_callFunc_extern Tryd.prog 69 _ (ReflectliteValue.methodAny (ReflectliteValue.valueError "reflectlite.Value.Type" 0) (fun t _ _ _ => ReflectliteType.toType t)) Tryd.func69 (by kernel_rfl) (by kernel_rfl) (by kernel_rfl) (by kernel_rfl)
  have h8 := @run_callFunc_extern Tryd.prog 70 _ (ReflectliteValue.method (ReflectliteValue.valueError "reflectlite.Value.IsNil" 0) ReflectliteValue.isNil) Tryd.func70 (by kernel_rfl) (by kernel_rfl) (by kernel_rfl) (by kernel_rfl)
  have h27 := @run_callFunc_extern Tryd.prog 119 _ (ReflectliteType.abiMethod fun t => do pure (.int .u8 (← Rtype.kind t))) Tryd.func119 (by kernel_rfl) (by kernel_rfl) (by kernel_rfl) (by kernel_rfl)
  have h37 := @run_callFunc_extern Tryd.prog 129 _ (ReflectliteType.method ReflectliteType.elem) Tryd.func129 (by kernel_rfl) (by kernel_rfl) (by kernel_rfl) (by kernel_rfl)
  have h38 := @run_callFunc_extern Tryd.prog 130 _ (ReflectliteType.relation "Implements" ReflectliteType.implements_) Tryd.func130 (by kernel_rfl) (by kernel_rfl) (by kernel_rfl) (by kernel_rfl)
  have h10 := @run_callFunc_extern Tryd.prog 84 _ ReflectliteType.typeOf Tryd.func84 (by kernel_rfl) (by kernel_rfl) (by kernel_rfl) (by kernel_rfl)
  have h35 := @run_callFunc_extern Tryd.prog 127 _ (ReflectliteType.relation "AssignableTo" ReflectliteType.assignableTo) Tryd.func127 (by kernel_rfl) (by kernel_rfl) (by kernel_rfl) (by kernel_rfl)
  have h11 := @run_callFunc_extern Tryd.prog 85 _ (ReflectliteValue.method (ReflectliteValue.valueError "reflectlite.Value.Elem" 0) ReflectliteValue.elem) Tryd.func85 (by kernel_rfl) (by kernel_rfl) (by kernel_rfl) (by kernel_rfl)
  have h12 := @run_callFunc_extern Tryd.prog 86 _ ReflectliteValue.set Tryd.func86 (by kernel_rfl) (by kernel_rfl) (by kernel_rfl) (by kernel_rfl)
  have tO := Tas.typeOf25
  have mA := Tas.methodAssignableTo
  have a25 := Tas.assignable25
  have v25 := Tas.valueOf25
  have f6 := Tas.valueOf27
  have f7 := Tas.type27
  have mK := Tas.methodKind
  have mE := Tas.methodElem
  have mI := Tas.methodImplements
  have k27 := Tas.kind27
  have k25 := Tas.kind25
  have e27 := Tas.elem27
  have i25 := Tas.implements25
  have n8 := Tas.isNil27 ⟨w.heap.size, 0, none⟩ t ((w.alloc (.cells #[.pointer (some t)] 96)).alloc (.cells #[.pointer (some ⟨1, 96, none⟩), .pointer (some ⟨w.heap.size, 0, none⟩), .int .u64 150] 111)) (by simp)
  have hlt : 0 < w.heap.size := by
    rcases Nat.eq_zero_or_pos w.heap.size with h0 | h
    · simp [World.cell?, h0] at hg
    · exact h
  have hg2 : ((w.alloc (.cells #[.pointer (some t)] 96)).alloc (.cells #[.pointer (some ⟨1, 96, none⟩), .pointer (some ⟨w.heap.size, 0, none⟩), .int .u64 150] 111)).cell? ⟨0, 0, none⟩ = some (.iface 136 (.agg #[.pointer (some ⟨1, 29, none⟩)])) := by
    rw [World.cell?_alloc_lt _ _ ⟨0, 0, none⟩ (by simp), World.cell?_alloc_lt _ _ ⟨0, 0, none⟩ hlt]; exact hg
  have htl : t.block < w.heap.size := by
    rcases Nat.lt_or_ge t.block w.heap.size with h | h
    · exact h
    · simp [World.cell?, Array.getElem?_eq_none h] at ht0
  have el := Tas.elemV27 ⟨w.heap.size, 0, none⟩ t (((w.alloc (.cells #[.pointer (some t)] 96)).alloc (.cells #[.pointer (some ⟨1, 96, none⟩), .pointer (some ⟨w.heap.size, 0, none⟩), .int .u64 150] 111)).alloc (.cells #[.pointer (some ⟨1, 96, none⟩), .pointer (some ⟨w.heap.size, 0, none⟩), .int .u64 150] 111)) (by rw [World.cell?_alloc_lt _ _ ⟨w.heap.size, 0, none⟩ (by simp; omega)]; simp)
  have st := Tas.set25 t ⟨w.heap.size + 1 + 1 + 1, 0, none⟩ e old ((((w.alloc (.cells #[.pointer (some t)] 96)).alloc (.cells #[.pointer (some ⟨1, 96, none⟩), .pointer (some ⟨w.heap.size, 0, none⟩), .int .u64 150] 111)).alloc (.cells #[.pointer (some ⟨1, 96, none⟩), .pointer (some ⟨w.heap.size, 0, none⟩), .int .u64 150] 111)).alloc (.cells #[.int .i64 e] 69))
    (by rw [World.cell?_alloc_at _ _ _ _ (by simp)]; rfl)
    (by rw [World.cell?_alloc_lt _ _ t (by simp; omega), World.cell?_alloc_lt _ _ t (by simp; omega), World.cell?_alloc_lt _ _ t (by simp; omega), World.cell?_alloc_lt _ _ t htl]; exact ht0)
    (by rw [World.frozen?_alloc_old _ _ t (by simp; omega), World.frozen?_alloc_old _ _ t (by simp; omega), World.frozen?_alloc_old _ _ t (by simp; omega), World.frozen?_alloc_old _ _ t (Nat.ne_of_lt htl)]; exact hf0)
  go_enter Tryd.func55, Tryd.ntmps55
  go_wp2
  refine wp_loop_rounds 1 ?_
  rw [rounds_succ]
  go_wp2
  go_ret
  exact ⟨rfl, rfl⟩
end Go.Proofs.YtgcliogognkdkaaDoor

/- The number of an error, as the program tells it; is an error the one with a number? -/
namespace Go.Proofs.YtgcliogognkdkaaDoor
open Go.RowKit Go.Extern.Stop Go.Stop Go.Extern Go.Vc

theorem fr_alloc (w : World) (o : Obj) : Fr (fun _ => False) w (w.alloc o) := ⟨rfl, rfl, rfl, by simp, fun b hb _ => Ext.alloc w o b hb, fun _ => Nat.le_refl _⟩

theorem told_nil (w : World) : Calls Tryd.prog 32 #[.nilIface] w fun e w' => e = .returned (.int .i64 0) ∧ w' = w := by
  go_enter Tryd.func32, Tryd.ntmps32
  go_wp2
  go_ret
  exact ⟨rfl, rfl⟩

set_option maxRecDepth 100000 in
set_option maxHeartbeats 4000000 in
theorem told_hit (n : Int) (w : World) (hg : w.cell? ⟨0, 0, none⟩ = some (.iface 136 (.agg #[.pointer (some ⟨1, 29, none⟩)]))) :
    Calls Tryd.prog 32 #[.iface 69 (.int .i64 n)] w fun e w' => e = .returned (.int .i64 n) ∧ Fr (fun _ => False) w w' := by
  have hlt : 0 < w.heap.size := World.block_lt_of_cell? w ⟨0, 0, none⟩ hg
  have hgA : (w.alloc (.cells #[.int .i64 0] 69)).cell? ⟨0, 0, none⟩ = some (.iface 136 (.agg #[.pointer (some ⟨1, 29, none⟩)])) := by
    rw [World.cell?_alloc_lt _ _ ⟨0, 0, none⟩ hlt]; exact hg
  have htA : (w.alloc (.cells #[.int .i64 0] 69)).cell? ⟨w.heap.size, 0, none⟩ = some (.int .i64 0) := by simp
  have hfA : (w.alloc (.cells #[.int .i64 0] 69)).frozen? ⟨w.heap.size, 0, none⟩ = false := by simp
  go_enter Tryd.func32, Tryd.ntmps32
  go_wp2_with (go_at_call 55; refine (as_hit n _ (.int .i64 0) _ hgA htA hfA).mono ?_; rintro e w' ⟨rfl, rfl⟩)
  go_ret
  exact ⟨rfl, ((((fr_alloc _ _).trans (fr_alloc _ _)).trans (fr_alloc _ _)).trans (fr_alloc _ _)).trans (fr_alloc _ _)⟩

/-- the handle of the type 'error' -/
abbrev hdE : Value := .iface 136 (.agg #[.pointer (some ⟨1, 29, none⟩)])
def glE : List (Nat × Dat) := [(0, ⟨.raw, hdE⟩)]
theorem hd_of {w : World} {ro : Nat → Prop} (h : GlOk glE w ro) : w.cell? ⟨0, 0, none⟩ = some hdE := by
  obtain ⟨_, us, h1, hn⟩ := h 0 _ (List.mem_singleton.2 rfl)
  have hn : us = [hdE] ∧ hdE.oneCell' = true := hn
  exact h1 0 hdE (by rw [hn.1]; rfl)
def cTold : Ctr := cdet [tErr] (fun (n : Int) => inK .i64 n) (fun (n : Int) => [⟨I, n⟩])
theorem okTold : PlainOk Tryd.prog glE 32 cTold := by
  intro ds k hs w R0 vals hR0 hG hD
  obtain ⟨hp, hk⟩ := hs
  obtain ⟨n, rfl, hin⟩ := dest1 hp
  have hk : k [⟨I, n⟩] := hk
  obtain ⟨hl, hd⟩ := hD
  match vals, hl with
  | [v], _ =>
    have hv : Ty.okV w R0 tErr n v := hd 0 ⟨tErr, n⟩ v rfl rfl
    unfold Ty.okV at hv
    simp only [Ty.agg, Bool.false_eq_true, if_false, Ty.ok] at hv
    have hok : ∀ {w' : World} {ro : Nat → Prop}, inK .i64 n → RetOk w' ro [(⟨I, n⟩ : Dat)] (.int .i64 n) := by
      intro w' ro hn
      show Ty.okV _ _ I n _
      unfold Ty.okV
      simp only [Ty.agg, Bool.false_eq_true, if_false, Ty.ok]
      exact ⟨trivial, hn⟩
    rcases hv with ⟨h0, hv⟩ | ⟨h0, hv⟩
    · injection hv with hv
      subst hv
      have h0 : (0 : Int) = n := h0.symm
      subst h0
      refine (show Calls Tryd.prog 32 #[.nilIface] w _ from told_nil w).mono fun e w' ⟨he, hw⟩ => ?_
      subst hw
      exact ⟨Fr.refl _ _, [⟨I, (0 : Int)⟩], _, he, hk, hok hin⟩
    · injection hv with hv
      subst hv
      refine (show Calls Tryd.prog 32 #[.iface 69 (.int .i64 n)] w _ from told_hit n w (hd_of hG)).mono fun e w' ⟨he, hw⟩ => ?_
      exact ⟨hw, [⟨I, n⟩], _, he, hk, hok hin⟩
theorem PlainOk.sub {P : Program} {gl gl' : List (Nat × Dat)} {f : FuncId} {c : Ctr} (hs : ∀ x ∈ gl, x ∈ gl') (h : PlainOk P gl f c) : PlainOk P gl' f c :=
  fun ds k hk w R0 vals hR0 hG hD => h ds k hk w R0 vals hR0 (fun g d hg => hG g d (hs _ hg)) hD
def cError : Ctr := cdet [tErr, I] (fun (n _ : Int) => inK .i64 n ∧ True) (fun (n e : Int) => [⟨.bool, decide (n = e)⟩])
def Er : Env := { tys := [(3, I), (4, .bool), (29, tErr), (69, I)], errT := 69, eqs := [], els := [] }
theorem Er_ok : EnvOk Tryd.prog Er := EnvOk.of_list (by kernel_rfl) (by kernel_rfl) (by kernel_rfl)
set_option linter.unusedVariables false in
theorem vcError (n e : Int) (k : List Dat → Prop) : vcF ⟨Er, [(32, cTold)], glE, [], []⟩ [] (Tryd.f6.body.getD .skip) Tryd.f6.ntmps [(.tmp 4, .bool)] [⟨tErr, n⟩, ⟨I, e⟩] k = (
  IntKind.i64.wrap n = n ∧ k [Dat.mk Ty.bool (decide (n = e))]) := by kernel_rfl
theorem okError : PlainOk Tryd.prog glE 6 cError := by
  refine plain_of (CxOk.mk' Er_ok rfl (by kernel_rfl) (gl := glE) (GOk.cons okTold Tryd.func32 (by kernel_rfl) (by kernel_rfl) GOk.nil) GoOk.nil noIt) Tryd.func6 (c := Tryd.f6.body.getD .skip) (rvs := [(.tmp 4, .bool)]) (by kernel_rfl) (by kernel_rfl) (by kernel_rfl) ?_
  intro ds k ⟨hp, hk⟩ hwf
  obtain ⟨n, e, rfl, hin, -⟩ := dest2 hp
  have hk : k [⟨.bool, decide (n = e)⟩] := hk
  refine ⟨[], ?_⟩
  rw [vcError]
  exact ⟨hin, hk⟩
theorem glE_of {laid : List (String × DataW Unit)} (hm : ("errors.errorType", Rows.laid_errors_errorType) ∈ laid) {W : World} (h : laidMetH Tryd.prog laid W) : GlOk glE W fun b => b < W.heap.size :=
  gl_of_handle (n := "errors.errorType") (u := 136) (ty := 29) (d := Rows.laid_errors_errorType) h hm rfl rfl (by kernel_rfl) (by kernel_rfl) (by kernel_rfl) (by kernel_rfl) rfl
end Go.Proofs.YtgcliogognkdkaaDoor

/- Nets: the law that the program plays as the reference does, its loops. -/
namespace Go.Proofs.YtgcliogognkdkaaDoor
open Go.Vc
def stepT (t : Net) (l : List Int) : Net :=
  if l.length = 3 then writeT t (l.getD 0 0) (l.getD 1 0) (l.getD 2 0) else if l.length = 2 then syncT t (l.getD 0 0) (l.getD 1 0) else t
def stepE (t : Net) (l : List Int) : Int :=
  if l.length = 3 then writeE t (l.getD 0 0) (l.getD 1 0) (l.getD 2 0) else if l.length = 2 then syncE t (l.getD 0 0) (l.getD 1 0) else 0
def rStepT (t : RN) (l : List Int) : RN :=
  if l.length = 3 then rWriteT t (l.getD 0 0) (l.getD 1 0) (l.getD 2 0) else if l.length = 2 then rSyncT t (l.getD 0 0) (l.getD 1 0) else t
def playF (n : Nat) (steps : List (List Int)) : Nat → Net
  | 0 => newF n
  | i + 1 => stepT (playF n steps i) (steps.getD i [])
def rplF (n : Int) (steps : List (List Int)) : Nat → RN
  | 0 => (n, List.replicate (n * 4).toNat [], List.replicate n.toNat 0, ())
  | i + 1 => rStepT (rplF n steps i) (steps.getD i [])
def oRead : OCtr := fun args ob k => match args, ob with
  | [.ps 0, .d (.int .i64) p, .d (.int .i64) q], [.st 82 [.os 1, .os 2], .row 87 (.ar 4 (.sl (.pr (.sl (.int .i64)) (.pr (.int .i64) .un)))) nodes, .row 3 (.int .i64) wrote] =>
    NetLen (nodes, wrote, ()) ∧ k (.os 1) [.st 82 [.os 2, .os 3], .row 84 tV (readF (nodes, wrote, ()) p q), .row 87 tRow nodes, .row 3 I wrote]
  | _, _ => False
def anReadO (t : Net) (p k : Int) : Ann := [joinAll, loopAt 5 Nat [(7, 84, tV)] (fun st i => { St.at (St.only st [0, 7, 23, 24]) [(25, .d I (i : Int))] with ob := obNet t ++ [.row 84 tV ((valsAt t p k).take i)] }) (fun _ i => i ≤ (valsAt t p k).length ∧ inNet t p k = true) (fun i => (valsAt t p k).length - i)]
def cLawGP : Ctr := cdet [I, .sl (.sl I)] (fun _ _ => True) (fun _ _ => [⟨.bool, true⟩])
def obGP (n : Int) (s : List (List Int)) (i : Nat) : List Ob := [.st 82 [.os 1, .os 2], .row 87 tRow (playF n.toNat s i).1, .row 3 I (playF n.toNat s i).2.1, .var 57 tRN (rplF n s i)]
def anGP (n : Int) (s : List (List Int)) : Ann := [joinAll,
  loopAt 8 Nat [] (fun st i => { St.at (St.only st [0, 1, 5, 7]) [(8, .d I (i : Int))] with ob := obGP n s i }) (fun _ i => (i ≤ s.length ∧ i ≤ 80) ∧ inB n 1 5 = true) (fun i => 100 - i),
  meetAt 19 Int [] (fun st e => { St.at (St.only st [0, 1, 5, 7, 8]) [(10, .d I e), (11, .d tErr e)] with ob := obGP n s ((st.i 8).toNat + 1) }) (fun _ e => inK .i64 e ∧ inB n 1 5 = true),
  loopAt 22 Nat [] (fun st p => { St.at (St.only st [0, 5, 7]) [(12, .d I (p : Int))] with ob := obGP n s (min s.length 80) }) (fun _ p => p ≤ n.toNat ∧ inB n 1 5 = true) (fun p => n.toNat - p),
  loopAt 25 Nat [] (fun st q => { St.at (St.only st [0, 5, 7, 12]) [(13, .d I (q : Int))] with ob := obGP n s (min s.length 80) }) (fun _ q => q ≤ 4 ∧ inB n 1 5 = true) (fun q => 4 - q)]
end Go.Proofs.YtgcliogognkdkaaDoor

/- What the functions of this seat have to satisfy, by program: each verification condition in plain words. -/
namespace Go.Proofs.YtgcliogognkdkaaDoor
open Go.Vc
set_option linter.unusedVariables false
theorem vcReadO (nd : List (List (List Va))) (wr : List Int) (p q : Int) (k : SV → List Ob → Prop) : vcO ⟨Eg, [(34, cCloneI), (47, cIs)], [], [], []⟩ (anReadO (nd, wr, ()) p q) (Tryd.f30.body.getD .skip) Tryd.f30.ntmps [(.tmp 6, .un)] [.ps 0, .d I p, .d I q] [.st 82 [.os 1, .os 2], .row 87 tRow nd, .row 3 I wr] k = (
  ((!inNet (nd, wr, ()) p q) = true → k SV.nils [Ob.st (82 : Nat) [SV.os (1 : Nat), SV.os (2 : Nat)], Ob.row (87 : Nat) (Ty.ar (4 : Nat) (tV).sl) nd, Ob.row (3 : Nat) (I) wr]) ∧ ((!inNet (nd, wr, ()) p q) = false → (0 : Int) ≤ p ∧ p < (↑nd.length : Int) ∧ (0 : Int) ≤ q ∧ q < (↑(4 : Nat) : Int) ∧ (∃ (x : Nat), (x ≤ (valsAt (nd, wr, ()) p q).length ∧ inNet (nd, wr, ()) p q = true) ∧ (True ∧ True ∧ (nd.getD p.toNat (List.replicate (4 : Nat) [])).getD q.toNat [] = (nd.getD p.toNat (List.replicate (4 : Nat) [])).getD q.toNat [] ∧ (↑((nd.getD p.toNat (List.replicate (4 : Nat) [])).getD q.toNat []).length : Int) = (↑((nd.getD p.toNat (List.replicate (4 : Nat) [])).getD q.toNat []).length : Int) ∧ (0 : Int) = (↑x : Int) ∧ True) ∧ ((True ∧ True ∧ True) ∧ ((87 : Nat) = (87 : Nat) ∧ nd = nd) ∧ ((3 : Nat) = (3 : Nat) ∧ wr = wr) ∧ ((84 : Nat) = (84 : Nat) ∧ [] = List.take x (valsAt (nd, wr, ()) p q)) ∧ True) ∧ True ∧ p = p ∧ q = q ∧ True) ∧ ∀ (x : Nat), x ≤ (valsAt (nd, wr, ()) p q).length ∧ inNet (nd, wr, ()) p q = true → (decide ((↑x : Int) < (↑((nd.getD p.toNat (List.replicate (4 : Nat) [])).getD q.toNat []).length : Int)) = true → (0 : Int) ≤ (↑x : Int) ∧ (↑x : Int) < (↑((nd.getD p.toNat (List.replicate (4 : Nat) [])).getD q.toNat []).length : Int) ∧ ((List.length (((nd.getD p.toNat (List.replicate (4 : Nat) [])).getD q.toNat []).getD (↑x : Int).toNat va0).fst ≤ (1000000000 : Nat) ∧ True) ∧ True) ∧ (List.take x (valsAt (nd, wr, ()) p q)).length + ((List.replicate (1 : Nat) va0).set (0 : Nat) ((((nd.getD p.toNat (List.replicate (4 : Nat) [])).getD q.toNat []).getD (↑x : Int).toNat va0).fst, (((nd.getD p.toNat (List.replicate (4 : Nat) [])).getD q.toNat []).getD (↑x : Int).toNat va0).snd.fst, ())).length ≤ (1000000000 : Nat) ∧ inK IntKind.i64 ((↑x : Int) + (1 : Int)) ∧ ∃ (x_1 : Nat), (x_1 ≤ (valsAt (nd, wr, ()) p q).length ∧ inNet (nd, wr, ()) p q = true) ∧ (valsAt (nd, wr, ()) p q).length - x_1 < (valsAt (nd, wr, ()) p q).length - x ∧ (True ∧ True ∧ (nd.getD p.toNat (List.replicate (4 : Nat) [])).getD q.toNat [] = (nd.getD p.toNat (List.replicate (4 : Nat) [])).getD q.toNat [] ∧ (↑((nd.getD p.toNat (List.replicate (4 : Nat) [])).getD q.toNat []).length : Int) = (↑((nd.getD p.toNat (List.replicate (4 : Nat) [])).getD q.toNat []).length : Int) ∧ (↑x : Int) + (1 : Int) = (↑x_1 : Int) ∧ True) ∧ ((True ∧ True ∧ True) ∧ ((87 : Nat) = (87 : Nat) ∧ nd = nd) ∧ ((3 : Nat) = (3 : Nat) ∧ wr = wr) ∧ ((84 : Nat) = (84 : Nat) ∧ (List.take x (valsAt (nd, wr, ()) p q)).append ((List.replicate (1 : Nat) va0).set (0 : Nat) ((((nd.getD p.toNat (List.replicate (4 : Nat) [])).getD q.toNat []).getD (↑x : Int).toNat va0).fst, (((nd.getD p.toNat (List.replicate (4 : Nat) [])).getD q.toNat []).getD (↑x : Int).toNat va0).snd.fst, ())) = List.take x_1 (valsAt (nd, wr, ()) p q)) ∧ True) ∧ True ∧ p = p ∧ q = q ∧ True) ∧ (decide ((↑x : Int) < (↑((nd.getD p.toNat (List.replicate (4 : Nat) [])).getD q.toNat []).length : Int)) = false → k (SV.os (1 : Nat)) [Ob.st (82 : Nat) [SV.os (2 : Nat), SV.os (3 : Nat)], Ob.row (84 : Nat) (tV) (List.take x (valsAt (nd, wr, ()) p q)), Ob.row (87 : Nat) (Ty.ar (4 : Nat) (tV).sl) nd, Ob.row (3 : Nat) (I) wr]))) := by kernel_rfl
theorem vcLawGP (n : Int) (s : List (List Int)) (k : List Dat → Prop) : vcF ⟨Eh [], [(6, cError), (24, cNewR), (25, cRWrite), (27, cRSync), (29, cValues)], glE, [], [(23, oNew), (26, oWrite), (28, oSync), (30, oRead)]⟩ (anGP n s) (Tryd.f4.body.getD .skip) Tryd.f4.ntmps [(.tmp 4, .bool)] [⟨I, n⟩, ⟨.sl (.sl I), s⟩] k = (
  (inB n (1 : Int) (5 : Int) = false → (decide (n < (1 : Int)) = true → (inK IntKind.i64 (1 : Int) ∧ True) ∧ k [Dat.mk Ty.bool (decide ((1 : Int) = (1 : Int)))]) ∧ (decide (n < (1 : Int)) = false → (decide ((5 : Int) < n) = true → (inK IntKind.i64 (1 : Int) ∧ True) ∧ k [Dat.mk Ty.bool (decide ((1 : Int) = (1 : Int)))]) ∧ (decide ((5 : Int) < n) = false → ((!decide ((1 : Int) = (0 : Int))) = true → k [Dat.mk Ty.bool false]) ∧ ((!decide ((1 : Int) = (0 : Int))) = false → (((0 : Int) ≤ n ∧ n ≤ (5 : Int)) ∧ True) ∧ (∃ (x : Nat), ((x ≤ s.length ∧ x ≤ (80 : Nat)) ∧ inB n (1 : Int) (5 : Int) = true) ∧ (n = n ∧ s = s ∧ True ∧ ([] : List Nat) = [] ∧ (0 : Int) = (↑x : Int) ∧ True) ∧ (False ∧ False ∧ False ∧ False ∧ True) ∧ hdE = hdE ∧ True) ∧ ∀ (x : Nat), (x ≤ s.length ∧ x ≤ (80 : Nat)) ∧ inB n (1 : Int) (5 : Int) = true → (decide ((↑x : Int) < (↑s.length : Int)) = true → (decide ((↑x : Int) < (80 : Int)) = true → (0 : Int) ≤ (↑x : Int) ∧ (↑x : Int) < (↑s.length : Int) ∧ ((decide ((↑(s.getD (↑x : Int).toNat []).length : Int) = (3 : Int)) = true → False ∧ False) ∧ (decide ((↑(s.getD (↑x : Int).toNat []).length : Int) = (3 : Int)) = false → (decide ((↑(s.getD (↑x : Int).toNat []).length : Int) = (2 : Int)) = true → False ∧ False) ∧ (decide ((↑(s.getD (↑x : Int).toNat []).length : Int) = (2 : Int)) = false → ∃ (x_1 : Int), (inK IntKind.i64 x_1 ∧ inB n (1 : Int) (5 : Int) = true) ∧ (n = n ∧ s = s ∧ True ∧ ([] : List Nat) = [] ∧ (↑x : Int) = (↑x : Int) ∧ (0 : Int) = x_1 ∧ (0 : Int) = x_1 ∧ True) ∧ ((True ∧ True ∧ True) ∧ ((87 : Nat) = (87 : Nat) ∧ (playF n.toNat s x).fst = (playF n.toNat s ((↑x : Int).toNat + (1 : Nat))).fst) ∧ ((3 : Nat) = (3 : Nat) ∧ (playF n.toNat s x).snd.fst = (playF n.toNat s ((↑x : Int).toNat + (1 : Nat))).snd.fst) ∧ ((57 : Nat) = (57 : Nat) ∧ rplF n s x = rplF n s ((↑x : Int).toNat + (1 : Nat))) ∧ True) ∧ hdE = hdE ∧ True))) ∧ ∀ (x_1 : Int), inK IntKind.i64 x_1 ∧ inB n (1 : Int) (5 : Int) = true → (inK IntKind.i64 x_1 ∧ True) ∧ ((!decide (x_1 = x_1)) = true → k [Dat.mk Ty.bool false]) ∧ ((!decide (x_1 = x_1)) = false → inK IntKind.i64 ((↑x : Int) + (1 : Int)) ∧ ∃ (x_2 : Nat), ((x_2 ≤ s.length ∧ x_2 ≤ (80 : Nat)) ∧ inB n (1 : Int) (5 : Int) = true) ∧ (100 : Nat) - x_2 < (100 : Nat) - x ∧ (n = n ∧ s = s ∧ True ∧ ([] : List Nat) = [] ∧ (↑x : Int) + (1 : Int) = (↑x_2 : Int) ∧ True) ∧ ((True ∧ True ∧ True) ∧ ((87 : Nat) = (87 : Nat) ∧ (playF n.toNat s ((↑x : Int).toNat + (1 : Nat))).fst = (playF n.toNat s x_2).fst) ∧ ((3 : Nat) = (3 : Nat) ∧ (playF n.toNat s ((↑x : Int).toNat + (1 : Nat))).snd.fst = (playF n.toNat s x_2).snd.fst) ∧ ((57 : Nat) = (57 : Nat) ∧ rplF n s ((↑x : Int).toNat + (1 : Nat)) = rplF n s x_2) ∧ True) ∧ hdE = hdE ∧ True)) ∧ (decide ((↑x : Int) < (80 : Int)) = false → (∃ (x_1 : Nat), (x_1 ≤ n.toNat ∧ inB n (1 : Int) (5 : Int) = true) ∧ (n = n ∧ True ∧ ([] : List Nat) = [] ∧ (0 : Int) = (↑x_1 : Int) ∧ True) ∧ ((True ∧ True ∧ True) ∧ ((87 : Nat) = (87 : Nat) ∧ (playF n.toNat s x).fst = (playF n.toNat s (min s.length (80 : Nat))).fst) ∧ ((3 : Nat) = (3 : Nat) ∧ (playF n.toNat s x).snd.fst = (playF n.toNat s (min s.length (80 : Nat))).snd.fst) ∧ ((57 : Nat) = (57 : Nat) ∧ rplF n s x = rplF n s (min s.length (80 : Nat))) ∧ True) ∧ hdE = hdE ∧ True) ∧ ∀ (x : Nat), x ≤ n.toNat ∧ inB n (1 : Int) (5 : Int) = true → (decide ((↑x : Int) < n) = true → (∃ (x_1 : Nat), (x_1 ≤ (4 : Nat) ∧ inB n (1 : Int) (5 : Int) = true) ∧ (n = n ∧ True ∧ ([] : List Nat) = [] ∧ (↑x : Int) = (↑x : Int) ∧ (0 : Int) = (↑x_1 : Int) ∧ True) ∧ ((True ∧ True ∧ True) ∧ ((87 : Nat) = (87 : Nat) ∧ (playF n.toNat s (min s.length (80 : Nat))).fst = (playF n.toNat s (min s.length (80 : Nat))).fst) ∧ ((3 : Nat) = (3 : Nat) ∧ (playF n.toNat s (min s.length (80 : Nat))).snd.fst = (playF n.toNat s (min s.length (80 : Nat))).snd.fst) ∧ ((57 : Nat) = (57 : Nat) ∧ rplF n s (min s.length (80 : Nat)) = rplF n s (min s.length (80 : Nat))) ∧ True) ∧ hdE = hdE ∧ True) ∧ ∀ (x_1 : Nat), x_1 ≤ (4 : Nat) ∧ inB n (1 : Int) (5 : Int) = true → (decide ((↑x_1 : Int) < (4 : Int)) = true → False) ∧ (decide ((↑x_1 : Int) < (4 : Int)) = false → inK IntKind.i64 ((↑x : Int) + (1 : Int)) ∧ ∃ (x_2 : Nat), (x_2 ≤ n.toNat ∧ inB n (1 : Int) (5 : Int) = true) ∧ n.toNat - x_2 < n.toNat - x ∧ (n = n ∧ True ∧ ([] : List Nat) = [] ∧ (↑x : Int) + (1 : Int) = (↑x_2 : Int) ∧ True) ∧ ((True ∧ True ∧ True) ∧ ((87 : Nat) = (87 : Nat) ∧ (playF n.toNat s (min s.length (80 : Nat))).fst = (playF n.toNat s (min s.length (80 : Nat))).fst) ∧ ((3 : Nat) = (3 : Nat) ∧ (playF n.toNat s (min s.length (80 : Nat))).snd.fst = (playF n.toNat s (min s.length (80 : Nat))).snd.fst) ∧ ((57 : Nat) = (57 : Nat) ∧ rplF n s (min s.length (80 : Nat)) = rplF n s (min s.length (80 : Nat))) ∧ True) ∧ hdE = hdE ∧ True)) ∧ (decide ((↑x : Int) < n) = false → False))) ∧ (decide ((↑x : Int) < (↑s.length : Int)) = false → (∃ (x_1 : Nat), (x_1 ≤ n.toNat ∧ inB n (1 : Int) (5 : Int) = true) ∧ (n = n ∧ True ∧ ([] : List Nat) = [] ∧ (0 : Int) = (↑x_1 : Int) ∧ True) ∧ ((True ∧ True ∧ True) ∧ ((87 : Nat) = (87 : Nat) ∧ (playF n.toNat s x).fst = (playF n.toNat s (min s.length (80 : Nat))).fst) ∧ ((3 : Nat) = (3 : Nat) ∧ (playF n.toNat s x).snd.fst = (playF n.toNat s (min s.length (80 : Nat))).snd.fst) ∧ ((57 : Nat) = (57 : Nat) ∧ rplF n s x = rplF n s (min s.length (80 : Nat))) ∧ True) ∧ hdE = hdE ∧ True) ∧ ∀ (x : Nat), x ≤ n.toNat ∧ inB n (1 : Int) (5 : Int) = true → (decide ((↑x : Int) < n) = true → (∃ (x_1 : Nat), (x_1 ≤ (4 : Nat) ∧ inB n (1 : Int) (5 : Int) = true) ∧ (n = n ∧ True ∧ ([] : List Nat) = [] ∧ (↑x : Int) = (↑x : Int) ∧ (0 : Int) = (↑x_1 : Int) ∧ True) ∧ ((True ∧ True ∧ True) ∧ ((87 : Nat) = (87 : Nat) ∧ (playF n.toNat s (min s.length (80 : Nat))).fst = (playF n.toNat s (min s.length (80 : Nat))).fst) ∧ ((3 : Nat) = (3 : Nat) ∧ (playF n.toNat s (min s.length (80 : Nat))).snd.fst = (playF n.toNat s (min s.length (80 : Nat))).snd.fst) ∧ ((57 : Nat) = (57 : Nat) ∧ rplF n s (min s.length (80 : Nat)) = rplF n s (min s.length (80 : Nat))) ∧ True) ∧ hdE = hdE ∧ True) ∧ ∀ (x_1 : Nat), x_1 ≤ (4 : Nat) ∧ inB n (1 : Int) (5 : Int) = true → (decide ((↑x_1 : Int) < (4 : Int)) = true → False) ∧ (decide ((↑x_1 : Int) < (4 : Int)) = false → inK IntKind.i64 ((↑x : Int) + (1 : Int)) ∧ ∃ (x_2 : Nat), (x_2 ≤ n.toNat ∧ inB n (1 : Int) (5 : Int) = true) ∧ n.toNat - x_2 < n.toNat - x ∧ (n = n ∧ True ∧ ([] : List Nat) = [] ∧ (↑x : Int) + (1 : Int) = (↑x_2 : Int) ∧ True) ∧ ((True ∧ True ∧ True) ∧ ((87 : Nat) = (87 : Nat) ∧ (playF n.toNat s (min s.length (80 : Nat))).fst = (playF n.toNat s (min s.length (80 : Nat))).fst) ∧ ((3 : Nat) = (3 : Nat) ∧ (playF n.toNat s (min s.length (80 : Nat))).snd.fst = (playF n.toNat s (min s.length (80 : Nat))).snd.fst) ∧ ((57 : Nat) = (57 : Nat) ∧ rplF n s (min s.length (80 : Nat)) = rplF n s (min s.length (80 : Nat))) ∧ True) ∧ hdE = hdE ∧ True)) ∧ (decide ((↑x : Int) < n) = false → False)))))) ∧ (inB n (1 : Int) (5 : Int) = true → (decide (n < (1 : Int)) = true → (inK IntKind.i64 (0 : Int) ∧ True) ∧ k [Dat.mk Ty.bool (decide ((0 : Int) = (1 : Int)))]) ∧ (decide (n < (1 : Int)) = false → (decide ((5 : Int) < n) = true → (inK IntKind.i64 (0 : Int) ∧ True) ∧ k [Dat.mk Ty.bool (decide ((0 : Int) = (1 : Int)))]) ∧ (decide ((5 : Int) < n) = false → ((!decide ((0 : Int) = (0 : Int))) = true → k [Dat.mk Ty.bool false]) ∧ ((!decide ((0 : Int) = (0 : Int))) = false → (((0 : Int) ≤ n ∧ n ≤ (5 : Int)) ∧ True) ∧ (∃ (x : Nat), ((x ≤ s.length ∧ x ≤ (80 : Nat)) ∧ inB n (1 : Int) (5 : Int) = true) ∧ (n = n ∧ s = s ∧ True ∧ ([] : List Nat) = [] ∧ (0 : Int) = (↑x : Int) ∧ True) ∧ ((True ∧ True ∧ True) ∧ ((87 : Nat) = (87 : Nat) ∧ List.replicate n.toNat (List.replicate (4 : Nat) []) = (playF n.toNat s x).fst) ∧ ((3 : Nat) = (3 : Nat) ∧ List.replicate n.toNat (0 : Int) = (playF n.toNat s x).snd.fst) ∧ ((57 : Nat) = (57 : Nat) ∧ (n, List.replicate (n * (4 : Int)).toNat [], List.replicate n.toNat (0 : Int), ()) = rplF n s x) ∧ True) ∧ hdE = hdE ∧ True) ∧ ∀ (x : Nat), (x ≤ s.length ∧ x ≤ (80 : Nat)) ∧ inB n (1 : Int) (5 : Int) = true → (decide ((↑x : Int) < (↑s.length : Int)) = true → (decide ((↑x : Int) < (80 : Int)) = true → (0 : Int) ≤ (↑x : Int) ∧ (↑x : Int) < (↑s.length : Int) ∧ ((decide ((↑(s.getD (↑x : Int).toNat []).length : Int) = (3 : Int)) = true → ((0 : Int) ≤ (0 : Int) ∧ (0 : Int) < (↑(s.getD (↑x : Int).toNat []).length : Int) ∧ (0 : Int) ≤ (1 : Int) ∧ (1 : Int) < (↑(s.getD (↑x : Int).toNat []).length : Int) ∧ (0 : Int) ≤ (2 : Int) ∧ (2 : Int) < (↑(s.getD (↑x : Int).toNat []).length : Int) ∧ (RSh (rplF n s x) ∧ True) ∧ True) ∧ ((0 : Int) ≤ (0 : Int) ∧ (0 : Int) < (↑(s.getD (↑x : Int).toNat []).length : Int) ∧ (0 : Int) ≤ (1 : Int) ∧ (1 : Int) < (↑(s.getD (↑x : Int).toNat []).length : Int) ∧ (0 : Int) ≤ (2 : Int) ∧ (2 : Int) < (↑(s.getD (↑x : Int).toNat []).length : Int) ∧ True) ∧ NetSh ((playF n.toNat s x).fst, (playF n.toNat s x).snd.fst, ()) ∧ ∃ (x_1 : Int), (inK IntKind.i64 x_1 ∧ inB n (1 : Int) (5 : Int) = true) ∧ (n = n ∧ s = s ∧ True ∧ ([] : List Nat) = [] ∧ (↑x : Int) = (↑x : Int) ∧ rWriteE (rplF n s x) ((s.getD (↑x : Int).toNat []).getD (Int.toNat (0 : Int)) (0 : Int)) ((s.getD (↑x : Int).toNat []).getD (Int.toNat (1 : Int)) (0 : Int)) ((s.getD (↑x : Int).toNat []).getD (Int.toNat (2 : Int)) (0 : Int)) = x_1 ∧ writeE ((playF n.toNat s x).fst, (playF n.toNat s x).snd.fst, ()) ((s.getD (↑x : Int).toNat []).getD (Int.toNat (0 : Int)) (0 : Int)) ((s.getD (↑x : Int).toNat []).getD (Int.toNat (1 : Int)) (0 : Int)) ((s.getD (↑x : Int).toNat []).getD (Int.toNat (2 : Int)) (0 : Int)) = x_1 ∧ True) ∧ ((True ∧ True ∧ True) ∧ ((87 : Nat) = (87 : Nat) ∧ (writeT ((playF n.toNat s x).fst, (playF n.toNat s x).snd.fst, ()) ((s.getD (↑x : Int).toNat []).getD (Int.toNat (0 : Int)) (0 : Int)) ((s.getD (↑x : Int).toNat []).getD (Int.toNat (1 : Int)) (0 : Int)) ((s.getD (↑x : Int).toNat []).getD (Int.toNat (2 : Int)) (0 : Int))).fst = (playF n.toNat s ((↑x : Int).toNat + (1 : Nat))).fst) ∧ ((3 : Nat) = (3 : Nat) ∧ (writeT ((playF n.toNat s x).fst, (playF n.toNat s x).snd.fst, ()) ((s.getD (↑x : Int).toNat []).getD (Int.toNat (0 : Int)) (0 : Int)) ((s.getD (↑x : Int).toNat []).getD (Int.toNat (1 : Int)) (0 : Int)) ((s.getD (↑x : Int).toNat []).getD (Int.toNat (2 : Int)) (0 : Int))).snd.fst = (playF n.toNat s ((↑x : Int).toNat + (1 : Nat))).snd.fst) ∧ ((57 : Nat) = (57 : Nat) ∧ rWriteT (rplF n s x) ((s.getD (↑x : Int).toNat []).getD (Int.toNat (0 : Int)) (0 : Int)) ((s.getD (↑x : Int).toNat []).getD (Int.toNat (1 : Int)) (0 : Int)) ((s.getD (↑x : Int).toNat []).getD (Int.toNat (2 : Int)) (0 : Int)) = rplF n s ((↑x : Int).toNat + (1 : Nat))) ∧ True) ∧ hdE = hdE ∧ True) ∧ (decide ((↑(s.getD (↑x : Int).toNat []).length : Int) = (3 : Int)) = false → (decide ((↑(s.getD (↑x : Int).toNat []).length : Int) = (2 : Int)) = true → ((0 : Int) ≤ (0 : Int) ∧ (0 : Int) < (↑(s.getD (↑x : Int).toNat []).length : Int) ∧ (0 : Int) ≤ (1 : Int) ∧ (1 : Int) < (↑(s.getD (↑x : Int).toNat []).length : Int) ∧ ((RSh (rplF n s x) ∧ (rSyncE (rplF n s x) ((s.getD (↑x : Int).toNat []).getD (Int.toNat (0 : Int)) (0 : Int)) ((s.getD (↑x : Int).toNat []).getD (Int.toNat (1 : Int)) (0 : Int)) = (0 : Int) → SyOk (rplF n s x) ((s.getD (↑x : Int).toNat []).getD (Int.toNat (0 : Int)) (0 : Int)) ((s.getD (↑x : Int).toNat []).getD (Int.toNat (1 : Int)) (0 : Int)))) ∧ True) ∧ True) ∧ ((0 : Int) ≤ (0 : Int) ∧ (0 : Int) < (↑(s.getD (↑x : Int).toNat []).length : Int) ∧ (0 : Int) ≤ (1 : Int) ∧ (1 : Int) < (↑(s.getD (↑x : Int).toNat []).length : Int) ∧ True) ∧ NetSh ((playF n.toNat s x).fst, (playF n.toNat s x).snd.fst, ()) ∧ ∃ (x_1 : Int), (inK IntKind.i64 x_1 ∧ inB n (1 : Int) (5 : Int) = true) ∧ (n = n ∧ s = s ∧ True ∧ ([] : List Nat) = [] ∧ (↑x : Int) = (↑x : Int) ∧ rSyncE (rplF n s x) ((s.getD (↑x : Int).toNat []).getD (Int.toNat (0 : Int)) (0 : Int)) ((s.getD (↑x : Int).toNat []).getD (Int.toNat (1 : Int)) (0 : Int)) = x_1 ∧ syncE ((playF n.toNat s x).fst, (playF n.toNat s x).snd.fst, ()) ((s.getD (↑x : Int).toNat []).getD (Int.toNat (0 : Int)) (0 : Int)) ((s.getD (↑x : Int).toNat []).getD (Int.toNat (1 : Int)) (0 : Int)) = x_1 ∧ True) ∧ ((True ∧ True ∧ True) ∧ ((87 : Nat) = (87 : Nat) ∧ (syncT ((playF n.toNat s x).fst, (playF n.toNat s x).snd.fst, ()) ((s.getD (↑x : Int).toNat []).getD (Int.toNat (0 : Int)) (0 : Int)) ((s.getD (↑x : Int).toNat []).getD (Int.toNat (1 : Int)) (0 : Int))).fst = (playF n.toNat s ((↑x : Int).toNat + (1 : Nat))).fst) ∧ ((3 : Nat) = (3 : Nat) ∧ (syncT ((playF n.toNat s x).fst, (playF n.toNat s x).snd.fst, ()) ((s.getD (↑x : Int).toNat []).getD (Int.toNat (0 : Int)) (0 : Int)) ((s.getD (↑x : Int).toNat []).getD (Int.toNat (1 : Int)) (0 : Int))).snd.fst = (playF n.toNat s ((↑x : Int).toNat + (1 : Nat))).snd.fst) ∧ ((57 : Nat) = (57 : Nat) ∧ rSyncT (rplF n s x) ((s.getD (↑x : Int).toNat []).getD (Int.toNat (0 : Int)) (0 : Int)) ((s.getD (↑x : Int).toNat []).getD (Int.toNat (1 : Int)) (0 : Int)) = rplF n s ((↑x : Int).toNat + (1 : Nat))) ∧ True) ∧ hdE = hdE ∧ True) ∧ (decide ((↑(s.getD (↑x : Int).toNat []).length : Int) = (2 : Int)) = false → ∃ (x_1 : Int), (inK IntKind.i64 x_1 ∧ inB n (1 : Int) (5 : Int) = true) ∧ (n = n ∧ s = s ∧ True ∧ ([] : List Nat) = [] ∧ (↑x : Int) = (↑x : Int) ∧ (0 : Int) = x_1 ∧ (0 : Int) = x_1 ∧ True) ∧ ((True ∧ True ∧ True) ∧ ((87 : Nat) = (87 : Nat) ∧ (playF n.toNat s x).fst = (playF n.toNat s ((↑x : Int).toNat + (1 : Nat))).fst) ∧ ((3 : Nat) = (3 : Nat) ∧ (playF n.toNat s x).snd.fst = (playF n.toNat s ((↑x : Int).toNat + (1 : Nat))).snd.fst) ∧ ((57 : Nat) = (57 : Nat) ∧ rplF n s x = rplF n s ((↑x : Int).toNat + (1 : Nat))) ∧ True) ∧ hdE = hdE ∧ True))) ∧ ∀ (x_1 : Int), inK IntKind.i64 x_1 ∧ inB n (1 : Int) (5 : Int) = true → (inK IntKind.i64 x_1 ∧ True) ∧ ((!decide (x_1 = x_1)) = true → k [Dat.mk Ty.bool false]) ∧ ((!decide (x_1 = x_1)) = false → inK IntKind.i64 ((↑x : Int) + (1 : Int)) ∧ ∃ (x_2 : Nat), ((x_2 ≤ s.length ∧ x_2 ≤ (80 : Nat)) ∧ inB n (1 : Int) (5 : Int) = true) ∧ (100 : Nat) - x_2 < (100 : Nat) - x ∧ (n = n ∧ s = s ∧ True ∧ ([] : List Nat) = [] ∧ (↑x : Int) + (1 : Int) = (↑x_2 : Int) ∧ True) ∧ ((True ∧ True ∧ True) ∧ ((87 : Nat) = (87 : Nat) ∧ (playF n.toNat s ((↑x : Int).toNat + (1 : Nat))).fst = (playF n.toNat s x_2).fst) ∧ ((3 : Nat) = (3 : Nat) ∧ (playF n.toNat s ((↑x : Int).toNat + (1 : Nat))).snd.fst = (playF n.toNat s x_2).snd.fst) ∧ ((57 : Nat) = (57 : Nat) ∧ rplF n s ((↑x : Int).toNat + (1 : Nat)) = rplF n s x_2) ∧ True) ∧ hdE = hdE ∧ True)) ∧ (decide ((↑x : Int) < (80 : Int)) = false → (∃ (x_1 : Nat), (x_1 ≤ n.toNat ∧ inB n (1 : Int) (5 : Int) = true) ∧ (n = n ∧ True ∧ ([] : List Nat) = [] ∧ (0 : Int) = (↑x_1 : Int) ∧ True) ∧ ((True ∧ True ∧ True) ∧ ((87 : Nat) = (87 : Nat) ∧ (playF n.toNat s x).fst = (playF n.toNat s (min s.length (80 : Nat))).fst) ∧ ((3 : Nat) = (3 : Nat) ∧ (playF n.toNat s x).snd.fst = (playF n.toNat s (min s.length (80 : Nat))).snd.fst) ∧ ((57 : Nat) = (57 : Nat) ∧ rplF n s x = rplF n s (min s.length (80 : Nat))) ∧ True) ∧ hdE = hdE ∧ True) ∧ ∀ (x : Nat), x ≤ n.toNat ∧ inB n (1 : Int) (5 : Int) = true → (decide ((↑x : Int) < n) = true → (∃ (x_1 : Nat), (x_1 ≤ (4 : Nat) ∧ inB n (1 : Int) (5 : Int) = true) ∧ (n = n ∧ True ∧ ([] : List Nat) = [] ∧ (↑x : Int) = (↑x : Int) ∧ (0 : Int) = (↑x_1 : Int) ∧ True) ∧ ((True ∧ True ∧ True) ∧ ((87 : Nat) = (87 : Nat) ∧ (playF n.toNat s (min s.length (80 : Nat))).fst = (playF n.toNat s (min s.length (80 : Nat))).fst) ∧ ((3 : Nat) = (3 : Nat) ∧ (playF n.toNat s (min s.length (80 : Nat))).snd.fst = (playF n.toNat s (min s.length (80 : Nat))).snd.fst) ∧ ((57 : Nat) = (57 : Nat) ∧ rplF n s (min s.length (80 : Nat)) = rplF n s (min s.length (80 : Nat))) ∧ True) ∧ hdE = hdE ∧ True) ∧ ∀ (x_1 : Nat), x_1 ≤ (4 : Nat) ∧ inB n (1 : Int) (5 : Int) = true → (decide ((↑x_1 : Int) < (4 : Int)) = true → inK IntKind.i64 ((↑x : Int) * (4 : Int)) ∧ inK IntKind.i64 ((↑x : Int) * (4 : Int) + (↑x_1 : Int)) ∧ (0 : Int) ≤ (↑x : Int) * (4 : Int) + (↑x_1 : Int) ∧ (↑x : Int) * (4 : Int) + (↑x_1 : Int) < (↑(List.length (rplF n s (min s.length (80 : Nat))).snd.fst) : Int) ∧ True ∧ NetLen ((playF n.toNat s (min s.length (80 : Nat))).fst, (playF n.toNat s (min s.length (80 : Nat))).snd.fst, ()) ∧ True ∧ (SV.pv ((I).pr ((tV).sl.sl.pr ((I).sl.pr Ty.un))) (3 : Nat) ([] ++ [(1 : Nat)]) = SV.pv ((I).pr ((tV).sl.sl.pr ((I).sl.pr Ty.un))) (3 : Nat) ([] ++ [(1 : Nat)]) ∧ (rplF n s (min s.length (80 : Nat))).snd.fst = (rplF n s (min s.length (80 : Nat))).snd.fst ∧ (inK IntKind.i64 ((↑x : Int) * (4 : Int)) ∧ (↑x : Int) * (4 : Int) = (↑x : Int) * (4 : Int)) ∧ (inK IntKind.i64 ((↑x : Int) * (4 : Int) + (↑x_1 : Int)) ∧ (↑x : Int) * (4 : Int) + (↑x_1 : Int) = (↑x : Int) * (4 : Int) + (↑x_1 : Int)) ∧ ((0 : Int) ≤ (↑x : Int) * (4 : Int) + (↑x_1 : Int) ∧ (↑x : Int) * (4 : Int) + (↑x_1 : Int) < (↑(List.length (rplF n s (min s.length (80 : Nat))).snd.fst) : Int) ∧ SV.ra (tV).sl (List.getD (rplF n s (min s.length (80 : Nat))).snd.fst ((↑x : Int) * (4 : Int) + (↑x_1 : Int)).toNat []) = SV.ra (tV).sl (List.getD (rplF n s (min s.length (80 : Nat))).snd.fst ((↑x : Int) * (4 : Int) + (↑x_1 : Int)).toNat [])) ∧ List.getD (rplF n s (min s.length (80 : Nat))).snd.fst ((↑x : Int) * (4 : Int) + (↑x_1 : Int)).toNat [] = List.getD (rplF n s (min s.length (80 : Nat))).snd.fst ((↑x : Int) * (4 : Int) + (↑x_1 : Int)).toNat [] ∧ True) ∧ ((!decide (readF ((playF n.toNat s (min s.length (80 : Nat))).fst, (playF n.toNat s (min s.length (80 : Nat))).snd.fst, ()) (↑x : Int) (↑x_1 : Int) = List.getD (rplF n s (min s.length (80 : Nat))).snd.fst ((↑x : Int) * (4 : Int) + (↑x_1 : Int)).toNat [])) = true → k [Dat.mk Ty.bool false]) ∧ ((!decide (readF ((playF n.toNat s (min s.length (80 : Nat))).fst, (playF n.toNat s (min s.length (80 : Nat))).snd.fst, ()) (↑x : Int) (↑x_1 : Int) = List.getD (rplF n s (min s.length (80 : Nat))).snd.fst ((↑x : Int) * (4 : Int) + (↑x_1 : Int)).toNat [])) = false → inK IntKind.i64 ((↑x_1 : Int) + (1 : Int)) ∧ ∃ (x_2 : Nat), (x_2 ≤ (4 : Nat) ∧ inB n (1 : Int) (5 : Int) = true) ∧ (4 : Nat) - x_2 < (4 : Nat) - x_1 ∧ (n = n ∧ True ∧ ([] : List Nat) = [] ∧ (↑x : Int) = (↑x : Int) ∧ (↑x_1 : Int) + (1 : Int) = (↑x_2 : Int) ∧ True) ∧ ((True ∧ True ∧ True) ∧ ((87 : Nat) = (87 : Nat) ∧ (playF n.toNat s (min s.length (80 : Nat))).fst = (playF n.toNat s (min s.length (80 : Nat))).fst) ∧ ((3 : Nat) = (3 : Nat) ∧ (playF n.toNat s (min s.length (80 : Nat))).snd.fst = (playF n.toNat s (min s.length (80 : Nat))).snd.fst) ∧ ((57 : Nat) = (57 : Nat) ∧ rplF n s (min s.length (80 : Nat)) = rplF n s (min s.length (80 : Nat))) ∧ True) ∧ hdE = hdE ∧ True)) ∧ (decide ((↑x_1 : Int) < (4 : Int)) = false → inK IntKind.i64 ((↑x : Int) + (1 : Int)) ∧ ∃ (x_2 : Nat), (x_2 ≤ n.toNat ∧ inB n (1 : Int) (5 : Int) = true) ∧ n.toNat - x_2 < n.toNat - x ∧ (n = n ∧ True ∧ ([] : List Nat) = [] ∧ (↑x : Int) + (1 : Int) = (↑x_2 : Int) ∧ True) ∧ ((True ∧ True ∧ True) ∧ ((87 : Nat) = (87 : Nat) ∧ (playF n.toNat s (min s.length (80 : Nat))).fst = (playF n.toNat s (min s.length (80 : Nat))).fst) ∧ ((3 : Nat) = (3 : Nat) ∧ (playF n.toNat s (min s.length (80 : Nat))).snd.fst = (playF n.toNat s (min s.length (80 : Nat))).snd.fst) ∧ ((57 : Nat) = (57 : Nat) ∧ rplF n s (min s.length (80 : Nat)) = rplF n s (min s.length (80 : Nat))) ∧ True) ∧ hdE = hdE ∧ True)) ∧ (decide ((↑x : Int) < n) = false → NetLen ((playF n.toNat s (min s.length (80 : Nat))).fst, (playF n.toNat s (min s.length (80 : Nat))).snd.fst, ()) ∧ (decide ((↑(readF ((playF n.toNat s (min s.length (80 : Nat))).fst, (playF n.toNat s (min s.length (80 : Nat))).snd.fst, ()) (-1 : Int) (0 : Int)).length : Int) = (0 : Int)) = true → NetLen ((playF n.toNat s (min s.length (80 : Nat))).fst, (playF n.toNat s (min s.length (80 : Nat))).snd.fst, ()) ∧ (decide ((↑(readF ((playF n.toNat s (min s.length (80 : Nat))).fst, (playF n.toNat s (min s.length (80 : Nat))).snd.fst, ()) n (0 : Int)).length : Int) = (0 : Int)) = true → NetLen ((playF n.toNat s (min s.length (80 : Nat))).fst, (playF n.toNat s (min s.length (80 : Nat))).snd.fst, ()) ∧ k [Dat.mk Ty.bool (decide ((↑(readF ((playF n.toNat s (min s.length (80 : Nat))).fst, (playF n.toNat s (min s.length (80 : Nat))).snd.fst, ()) (0 : Int) (4 : Int)).length : Int) = (0 : Int)))]) ∧ (decide ((↑(readF ((playF n.toNat s (min s.length (80 : Nat))).fst, (playF n.toNat s (min s.length (80 : Nat))).snd.fst, ()) n (0 : Int)).length : Int) = (0 : Int)) = false → k [Dat.mk Ty.bool false])) ∧ (decide ((↑(readF ((playF n.toNat s (min s.length (80 : Nat))).fst, (playF n.toNat s (min s.length (80 : Nat))).snd.fst, ()) (-1 : Int) (0 : Int)).length : Int) = (0 : Int)) = false → k [Dat.mk Ty.bool false])))) ∧ (decide ((↑x : Int) < (↑s.length : Int)) = false → (∃ (x_1 : Nat), (x_1 ≤ n.toNat ∧ inB n (1 : Int) (5 : Int) = true) ∧ (n = n ∧ True ∧ ([] : List Nat) = [] ∧ (0 : Int) = (↑x_1 : Int) ∧ True) ∧ ((True ∧ True ∧ True) ∧ ((87 : Nat) = (87 : Nat) ∧ (playF n.toNat s x).fst = (playF n.toNat s (min s.length (80 : Nat))).fst) ∧ ((3 : Nat) = (3 : Nat) ∧ (playF n.toNat s x).snd.fst = (playF n.toNat s (min s.length (80 : Nat))).snd.fst) ∧ ((57 : Nat) = (57 : Nat) ∧ rplF n s x = rplF n s (min s.length (80 : Nat))) ∧ True) ∧ hdE = hdE ∧ True) ∧ ∀ (x : Nat), x ≤ n.toNat ∧ inB n (1 : Int) (5 : Int) = true → (decide ((↑x : Int) < n) = true → (∃ (x_1 : Nat), (x_1 ≤ (4 : Nat) ∧ inB n (1 : Int) (5 : Int) = true) ∧ (n = n ∧ True ∧ ([] : List Nat) = [] ∧ (↑x : Int) = (↑x : Int) ∧ (0 : Int) = (↑x_1 : Int) ∧ True) ∧ ((True ∧ True ∧ True) ∧ ((87 : Nat) = (87 : Nat) ∧ (playF n.toNat s (min s.length (80 : Nat))).fst = (playF n.toNat s (min s.length (80 : Nat))).fst) ∧ ((3 : Nat) = (3 : Nat) ∧ (playF n.toNat s (min s.length (80 : Nat))).snd.fst = (playF n.toNat s (min s.length (80 : Nat))).snd.fst) ∧ ((57 : Nat) = (57 : Nat) ∧ rplF n s (min s.length (80 : Nat)) = rplF n s (min s.length (80 : Nat))) ∧ True) ∧ hdE = hdE ∧ True) ∧ ∀ (x_1 : Nat), x_1 ≤ (4 : Nat) ∧ inB n (1 : Int) (5 : Int) = true → (decide ((↑x_1 : Int) < (4 : Int)) = true → inK IntKind.i64 ((↑x : Int) * (4 : Int)) ∧ inK IntKind.i64 ((↑x : Int) * (4 : Int) + (↑x_1 : Int)) ∧ (0 : Int) ≤ (↑x : Int) * (4 : Int) + (↑x_1 : Int) ∧ (↑x : Int) * (4 : Int) + (↑x_1 : Int) < (↑(List.length (rplF n s (min s.length (80 : Nat))).snd.fst) : Int) ∧ True ∧ NetLen ((playF n.toNat s (min s.length (80 : Nat))).fst, (playF n.toNat s (min s.length (80 : Nat))).snd.fst, ()) ∧ True ∧ (SV.pv ((I).pr ((tV).sl.sl.pr ((I).sl.pr Ty.un))) (3 : Nat) ([] ++ [(1 : Nat)]) = SV.pv ((I).pr ((tV).sl.sl.pr ((I).sl.pr Ty.un))) (3 : Nat) ([] ++ [(1 : Nat)]) ∧ (rplF n s (min s.length (80 : Nat))).snd.fst = (rplF n s (min s.length (80 : Nat))).snd.fst ∧ (inK IntKind.i64 ((↑x : Int) * (4 : Int)) ∧ (↑x : Int) * (4 : Int) = (↑x : Int) * (4 : Int)) ∧ (inK IntKind.i64 ((↑x : Int) * (4 : Int) + (↑x_1 : Int)) ∧ (↑x : Int) * (4 : Int) + (↑x_1 : Int) = (↑x : Int) * (4 : Int) + (↑x_1 : Int)) ∧ ((0 : Int) ≤ (↑x : Int) * (4 : Int) + (↑x_1 : Int) ∧ (↑x : Int) * (4 : Int) + (↑x_1 : Int) < (↑(List.length (rplF n s (min s.length (80 : Nat))).snd.fst) : Int) ∧ SV.ra (tV).sl (List.getD (rplF n s (min s.length (80 : Nat))).snd.fst ((↑x : Int) * (4 : Int) + (↑x_1 : Int)).toNat []) = SV.ra (tV).sl (List.getD (rplF n s (min s.length (80 : Nat))).snd.fst ((↑x : Int) * (4 : Int) + (↑x_1 : Int)).toNat [])) ∧ List.getD (rplF n s (min s.length (80 : Nat))).snd.fst ((↑x : Int) * (4 : Int) + (↑x_1 : Int)).toNat [] = List.getD (rplF n s (min s.length (80 : Nat))).snd.fst ((↑x : Int) * (4 : Int) + (↑x_1 : Int)).toNat [] ∧ True) ∧ ((!decide (readF ((playF n.toNat s (min s.length (80 : Nat))).fst, (playF n.toNat s (min s.length (80 : Nat))).snd.fst, ()) (↑x : Int) (↑x_1 : Int) = List.getD (rplF n s (min s.length (80 : Nat))).snd.fst ((↑x : Int) * (4 : Int) + (↑x_1 : Int)).toNat [])) = true → k [Dat.mk Ty.bool false]) ∧ ((!decide (readF ((playF n.toNat s (min s.length (80 : Nat))).fst, (playF n.toNat s (min s.length (80 : Nat))).snd.fst, ()) (↑x : Int) (↑x_1 : Int) = List.getD (rplF n s (min s.length (80 : Nat))).snd.fst ((↑x : Int) * (4 : Int) + (↑x_1 : Int)).toNat [])) = false → inK IntKind.i64 ((↑x_1 : Int) + (1 : Int)) ∧ ∃ (x_2 : Nat), (x_2 ≤ (4 : Nat) ∧ inB n (1 : Int) (5 : Int) = true) ∧ (4 : Nat) - x_2 < (4 : Nat) - x_1 ∧ (n = n ∧ True ∧ ([] : List Nat) = [] ∧ (↑x : Int) = (↑x : Int) ∧ (↑x_1 : Int) + (1 : Int) = (↑x_2 : Int) ∧ True) ∧ ((True ∧ True ∧ True) ∧ ((87 : Nat) = (87 : Nat) ∧ (playF n.toNat s (min s.length (80 : Nat))).fst = (playF n.toNat s (min s.length (80 : Nat))).fst) ∧ ((3 : Nat) = (3 : Nat) ∧ (playF n.toNat s (min s.length (80 : Nat))).snd.fst = (playF n.toNat s (min s.length (80 : Nat))).snd.fst) ∧ ((57 : Nat) = (57 : Nat) ∧ rplF n s (min s.length (80 : Nat)) = rplF n s (min s.length (80 : Nat))) ∧ True) ∧ hdE = hdE ∧ True)) ∧ (decide ((↑x_1 : Int) < (4 : Int)) = false → inK IntKind.i64 ((↑x : Int) + (1 : Int)) ∧ ∃ (x_2 : Nat), (x_2 ≤ n.toNat ∧ inB n (1 : Int) (5 : Int) = true) ∧ n.toNat - x_2 < n.toNat - x ∧ (n = n ∧ True ∧ ([] : List Nat) = [] ∧ (↑x : Int) + (1 : Int) = (↑x_2 : Int) ∧ True) ∧ ((True ∧ True ∧ True) ∧ ((87 : Nat) = (87 : Nat) ∧ (playF n.toNat s (min s.length (80 : Nat))).fst = (playF n.toNat s (min s.length (80 : Nat))).fst) ∧ ((3 : Nat) = (3 : Nat) ∧ (playF n.toNat s (min s.length (80 : Nat))).snd.fst = (playF n.toNat s (min s.length (80 : Nat))).snd.fst) ∧ ((57 : Nat) = (57 : Nat) ∧ rplF n s (min s.length (80 : Nat)) = rplF n s (min s.length (80 : Nat))) ∧ True) ∧ hdE = hdE ∧ True)) ∧ (decide ((↑x : Int) < n) = false → NetLen ((playF n.toNat s (min s.length (80 : Nat))).fst, (playF n.toNat s (min s.length (80 : Nat))).snd.fst, ()) ∧ (decide ((↑(readF ((playF n.toNat s (min s.length (80 : Nat))).fst, (playF n.toNat s (min s.length (80 : Nat))).snd.fst, ()) (-1 : Int) (0 : Int)).length : Int) = (0 : Int)) = true → NetLen ((playF n.toNat s (min s.length (80 : Nat))).fst, (playF n.toNat s (min s.length (80 : Nat))).snd.fst, ()) ∧ (decide ((↑(readF ((playF n.toNat s (min s.length (80 : Nat))).fst, (playF n.toNat s (min s.length (80 : Nat))).snd.fst, ()) n (0 : Int)).length : Int) = (0 : Int)) = true → NetLen ((playF n.toNat s (min s.length (80 : Nat))).fst, (playF n.toNat s (min s.length (80 : Nat))).snd.fst, ()) ∧ k [Dat.mk Ty.bool (decide ((↑(readF ((playF n.toNat s (min s.length (80 : Nat))).fst, (playF n.toNat s (min s.length (80 : Nat))).snd.fst, ()) (0 : Int) (4 : Int)).length : Int) = (0 : Int)))]) ∧ (decide ((↑(readF ((playF n.toNat s (min s.length (80 : Nat))).fst, (playF n.toNat s (min s.length (80 : Nat))).snd.fst, ()) n (0 : Int)).length : Int) = (0 : Int)) = false → k [Dat.mk Ty.bool false])) ∧ (decide ((↑(readF ((playF n.toNat s (min s.length (80 : Nat))).fst, (playF n.toNat s (min s.length (80 : Nat))).snd.fst, ()) (-1 : Int) (0 : Int)).length : Int) = (0 : Int)) = false → k [Dat.mk Ty.bool false])))))))) := by kernel_rfl
end Go.Proofs.YtgcliogognkdkaaDoor

/- Nets: reading answers a row of the call's own. -/
namespace Go.Vc
open Go.RowKit
theorem OwnOk.sub [Dn] {P : Program} {gl gl' : List (Nat × Dat)} {f : FuncId} {c : OCtr} (hs : ∀ x ∈ gl, x ∈ gl') (h : OwnOk P gl f c) : OwnOk P gl' f c :=
  fun args ob k hc w M R0 A vals hB hrd I => h args ob k hc w M R0 A vals ⟨fun g d hg => hB.gl g d (hs _ hg), hB.lt, hB.me⟩ hrd I
theorem OwnOk.lift [Dn] {P : Program} {gl : List (Nat × Dat)} {f : FuncId} {c : OCtr} (h : OwnOk P [] f c) : OwnOk P gl f c := h.sub fun x hx => by cases hx
/-- A nil slice that comes back may be seen as a row without elements, whatever was handed in; the objects are named by s. -/
theorem own_nilrowK [Dn] {P : Program} {gl : List (Nat × Dat)} {f : FuncId} {oc oc' : OCtr} (h : OwnOk P gl f oc) (e : TypeId) (t : Ty) (σ : List Nat) (hσ : σ.Nodup)
    (h' : ∀ args ob k, oc' args ob k → (∀ i, i < keptN args → σ.getD i 0 = i) ∧ oc args ob (fun s ob' => match s with
      | .nils => keptN args ≤ ob'.length ∧ k (reS σ (.os ob'.length)) (σ.map fun i => reO σ ((ob' ++ [Ob.row e t []]).getD i .dead))
      | s => k s ob')) : OwnOk P gl f oc' := by
  intro args ob k hc w M R0 A vals hB hrd I
  obtain ⟨hs, hc⟩ := h' _ _ _ hc
  refine (h _ _ _ hc w M R0 A vals hB hrd I).mono ?_
  rintro x w' ⟨v, s, ob1, A', rfl, hk, I2, hkeep⟩
  split at hk
  · obtain ⟨hkn, hk⟩ := hk
    have hv : v = .slice none 0 0 := I2.tm 0 .nils rfl
    subst hv
    have hnum : A'.n = ob1.length := I2.num
    have hI := (I2.add none (fun _ => .slice none 0 0) (fun b => (Value.slice none 0 0).ownBlock = some b) (nilOb e (.d t)) (Same.refl w') (fun _ _ _ => rfl) (fun b hb => by simp [Value.ownBlock] at hb) (fun hro =>
          nilOb_ok e (.d t) (Asg.push_η ..) (Asg.push_κ ..))).put (d := some 0) (s := .os ob1.length) (v := .slice none 0 0) ⟨by simp [Asg.pushT, hnum], by rw [← hnum, Asg.push_η]⟩
    refine ⟨.slice none 0 0, _, _, _, rfl, hk, hI.re hσ, fun i hi => ?_⟩
    rw [← hkeep i hi]
    simp only [Asg.re]
    rw [hs i hi]
    simp only [Asg.pushT]
    rw [if_neg (by omega)]
  · exact ⟨v, _, _, A', rfl, hk, I2, hkeep⟩
end Go.Vc
namespace Go.Proofs.YtgcliogognkdkaaDoor
open Go.Vc Go.Proofs

theorem readO_vc (nd : List (List (List Va))) (wr : List Int) (p q : Int) (hN : NetLen (nd, wr, ())) (k : SV → List Ob → Prop)
    (h1 : inNet (nd, wr, ()) p q = false → k .nils [.st 82 [.os 1, .os 2], .row 87 tRow nd, .row 3 I wr])
    (h2 : inNet (nd, wr, ()) p q = true → k (.os 1) [.st 82 [.os 2, .os 3], .row 84 tV (valsAt (nd, wr, ()) p q), .row 87 tRow nd, .row 3 I wr]) :
    vcO ⟨Eg, [(34, cCloneI), (47, cIs)], [], [], []⟩ (anReadO (nd, wr, ()) p q) (Tryd.f30.body.getD .skip) Tryd.f30.ntmps [(.tmp 6, .un)] [.ps 0, .d I p, .d I q] [.st 82 [.os 1, .os 2], .row 87 tRow nd, .row 3 I wr] k := by
  rw [vcReadO]
  have e0 : (List.getD nd p.toNat (List.replicate 4 [])).getD q.toNat [] = valsAt (nd, wr, ()) p q := rfl
  have e1 : ∀ y : Va, (List.replicate 1 va0).set 0 y = [y] := fun _ => rfl
  have ea : ∀ (m n : List Va), List.append m n = m ++ n := fun _ _ => rfl
  have e2 : ∀ y : Va, (y.1, y.2.1, ()) = y := fun _ => rfl
  simp only [e0, e1, ea, e2, decide_eq_true_eq, decide_eq_false_iff_not, true_and, and_true, Bool.not_eq_true', Bool.not_eq_false', Int.toNat_natCast, inK_i64]
  refine ⟨h1, fun h => ?_⟩
  have hin := inNet_iff.1 h
  have hin1 : p < (nd.length : Int) := hin.1.2
  have hr : (List.getD nd p.toNat (List.replicate 4 [])) ∈ nd := getD_memL (by omega)
  obtain ⟨hr4, hrl⟩ := hN.1 _ hr
  have hv : valsAt (nd, wr, ()) p q ∈ (List.getD nd p.toNat (List.replicate 4 [])) := getD_memL (by rw [hr4]; omega)
  obtain ⟨hl1, hl2⟩ := hrl _ hv
  refine ⟨hin.1.1, hin1, hin.2.1, by omega, ⟨0, ⟨Nat.zero_le _, h⟩, rfl, rfl⟩, fun x ⟨hx, _⟩ => ⟨fun hlt => ?_, fun hge => ?_⟩⟩
  · have hxl : x < (valsAt (nd, wr, ()) p q).length := by omega
    have := hl2 _ (getD_memL (d := va0) hxl)
    refine ⟨by omega, hlt, by omega, ?_, by omega, x + 1, ⟨by omega, h⟩, by omega, by omega, ?_⟩
    · rw [List.length_take]; simp only [List.length_cons, List.length_nil]; omega
    · rw [List.take_succ_eq_append_getElem hxl, List.getD_eq_getElem?_getD, List.getElem?_eq_getElem hxl]; rfl
  · have : x = (valsAt (nd, wr, ()) p q).length := by omega
    rw [this, List.take_length]; exact h2 h
theorem ownRead : OwnOk Tryd.prog [] 30 oRead := by
  refine own_nilrowK (oc := fun args ob k => ∃ (p q : Int) (nd : List (List (List Va))) (wr : List Int), args = [.ps 0, .d I p, .d I q] ∧ ob = [.st 82 [.os 1, .os 2], .row 87 tRow nd, .row 3 I wr] ∧ NetLen (nd, wr, ()) ∧
      (inNet (nd, wr, ()) p q = false → k .nils [.st 82 [.os 1, .os 2], .row 87 tRow nd, .row 3 I wr]) ∧
      (inNet (nd, wr, ()) p q = true → k (.os 1) [.st 82 [.os 2, .os 3], .row 84 tV (valsAt (nd, wr, ()) p q), .row 87 tRow nd, .row 3 I wr])) ?_ 84 tV [0, 3, 1, 2] (by decide) ?_
  · refine own_of (CxOk.mk' Eg_ok (by kernel_rfl) mixed (gl := []) (GOk.cons okCloneI Tryd.func34 (by kernel_rfl) (by kernel_rfl) (GOk.cons okIs Tryd.func47 (by kernel_rfl) (by kernel_rfl) GOk.nil)) GoOk.nil noIt) Tryd.func30 (c := Tryd.f30.body.getD .skip) (rvs := [(.tmp 6, .un)]) (by kernel_rfl) (by kernel_rfl) (by kernel_rfl) ?_
    rintro args ob k ⟨p, q, nd, wr, rfl, rfl, hN, h1, h2⟩ hwa hwo
    exact ⟨anReadO (nd, wr, ()) p q, readO_vc nd wr p q hN k h1 h2⟩
  · intro args ob k h
    unfold oRead at h
    split at h
    · rename_i p q nd wr
      obtain ⟨hN, hk⟩ := h
      refine ⟨fun i hi => ?_, p, q, nd, wr, rfl, rfl, hN, fun hb => ⟨show 1 ≤ 3 from by decide, ?_⟩, fun hb => ?_⟩
      · have : i < 1 := hi
        have : i = 0 := by omega
        subst this; rfl
      · unfold readF at hk; rw [if_neg (by rw [hb]; decide)] at hk; exact hk
      · unfold readF at hk; rw [if_pos hb] at hk; exact hk
    · exact h.elim

end Go.Proofs.YtgcliogognkdkaaDoor

/- Nets: the program plays as the reference does. -/
namespace Go.Proofs.YtgcliogognkdkaaDoor
open Go.Vc Go.Proofs

theorem play_succ (n : Nat) (s : List (List Int)) (i : Nat) : playF n s (i + 1) = stepT (playF n s i) (s.getD i []) := rfl
theorem rpl_succ (n : Int) (s : List (List Int)) (i : Nat) : rplF n s (i + 1) = rStepT (rplF n s i) (s.getD i []) := rfl
theorem step3 {t : Net} {l : List Int} (h : l.length = 3) : stepT t l = writeT t (l.getD 0 0) (l.getD 1 0) (l.getD 2 0) := by unfold stepT; rw [if_pos h]
theorem step2 {t : Net} {l : List Int} (h : l.length = 2) : stepT t l = syncT t (l.getD 0 0) (l.getD 1 0) := by unfold stepT; rw [if_neg (by omega), if_pos h]
theorem step0 {t : Net} {l : List Int} (h3 : ¬ l.length = 3) (h2 : ¬ l.length = 2) : stepT t l = t := by unfold stepT; rw [if_neg h3, if_neg h2]
theorem rstep3 {t : RN} {l : List Int} (h : l.length = 3) : rStepT t l = rWriteT t (l.getD 0 0) (l.getD 1 0) (l.getD 2 0) := by unfold rStepT; rw [if_pos h]
theorem rstep2 {t : RN} {l : List Int} (h : l.length = 2) : rStepT t l = rSyncT t (l.getD 0 0) (l.getD 1 0) := by unfold rStepT; rw [if_neg (by omega), if_pos h]
theorem rstep0 {t : RN} {l : List Int} (h3 : ¬ l.length = 3) (h2 : ¬ l.length = 2) : rStepT t l = t := by unfold rStepT; rw [if_neg h3, if_neg h2]
theorem inB5 {n : Int} (h : inB n 1 5 = true) : 1 ≤ n.toNat ∧ n.toNat ≤ 5 ∧ 1 ≤ n ∧ n ≤ 5 := by
  have := inB_iff.1 h; omega
theorem play_rel {n : Int} (hb : inB n 1 5 = true) (s : List (List Int)) : ∀ i, ∃ H, NInv n.toNat (fun _ _ => True) H (playF n.toNat s i) ∧ Rel n.toNat (playF n.toNat s i) (rplF n s i)
  | 0 => by
    obtain ⟨n1, n5, m1, m5⟩ := inB5 hb
    have R := Rel.init n.toNat
    rw [show ((n.toNat : Nat) : Int) = n by omega] at R
    exact ⟨_, NInv.init _ n1 n5, R⟩
  | i + 1 => by
    obtain ⟨H, I, R⟩ := play_rel hb s i
    rw [play_succ, rpl_succ]
    by_cases h3 : (s.getD i []).length = 3
    · rw [step3 h3, rstep3 h3]
      obtain ⟨H', I'⟩ := I.write ((s.getD i []).getD 0 0) ((s.getD i []).getD 1 0) ((s.getD i []).getD 2 0) fun _ => trivial
      exact ⟨H', I', Rel.write I R _ _ _⟩
    · by_cases h2 : (s.getD i []).length = 2
      · rw [step2 h2, rstep2 h2]; exact ⟨H, I.sync _ _, Rel.sync I R _ _⟩
      · rw [step0 h3 h2, rstep0 h3 h2]; exact ⟨H, I, R⟩
theorem writeE_k (t : Net) (p q v : Int) : -9223372036854775808 ≤ writeE t p q v ∧ writeE t p q v ≤ 9223372036854775807 := by
  unfold writeE; split
  · split <;> omega
  · omega
theorem syncE_k (t : Net) (a b : Int) : -9223372036854775808 ≤ syncE t a b ∧ syncE t a b ≤ 9223372036854775807 := by
  unfold syncE; split
  · split <;> omega
  · omega
theorem net_eta (t : Net) : (t.1, t.2.1, ()) = t := rfl
theorem lawGP_vc (n : Int) (s : List (List Int)) (hml : s.length ≤ maxLen) (k : List Dat → Prop) (hk : k [⟨.bool, true⟩]) :
    vcF ⟨Eh [], [(6, cError), (24, cNewR), (25, cRWrite), (27, cRSync), (29, cValues)], glE, [], [(23, oNew), (26, oWrite), (28, oSync), (30, oRead)]⟩ (anGP n s) (Tryd.f4.body.getD .skip) Tryd.f4.ntmps [(.tmp 4, .bool)] [⟨I, n⟩, ⟨.sl (.sl I), s⟩] k := by
  rw [vcLawGP]
  have hmx : maxLen ≤ 9223372036854775807 := by decide
  have ret : ∀ x : Bool, x = true → k [⟨.bool, x⟩] := by rintro _ rfl; exact hk
  have d1 : decide ((1 : Int) = 0) = false := rfl
  have d0 : decide ((0 : Int) = 0) = true := rfl
  have d2 : decide ((1 : Int) = 1) = true := rfl
  have i0 : Int.toNat 0 = 0 := rfl
  have i1 : Int.toNat 1 = 1 := rfl
  have i2 : Int.toNat 2 = 2 := rfl
  cases hb : inB n 1 5 with
  | false =>
    have hb' : ¬ (1 ≤ n ∧ n ≤ 5) := fun h => by rw [inB_iff.2 h] at hb; cases hb
    simp only [hb, d0, d1, d2, i0, i1, i2, net_eta, decide_eq_true_eq, decide_eq_false_iff_not, Int.toNat_natCast, inK_i64, true_and, and_true, decide_true, decide_false, Bool.not_true, Bool.not_false, Bool.true_eq_false, Bool.false_eq_true, false_implies, forall_const, and_false, false_and, Bool.not_eq_true', Bool.not_eq_false']
    exact ⟨fun _ => ⟨by omega, hk⟩, fun h1 => ⟨fun _ => ⟨by omega, hk⟩, fun h5 => absurd (show 1 ≤ n ∧ n ≤ 5 by omega) hb'⟩⟩
  | true =>
    obtain ⟨n1, n5, m1, m5⟩ := inB5 hb
    simp only [hb, d0, d1, d2, i0, i1, i2, net_eta, decide_eq_true_eq, decide_eq_false_iff_not, Int.toNat_natCast, inK_i64, true_and, and_true, decide_true, decide_false, Bool.not_true, Bool.not_false, Bool.true_eq_false, Bool.false_eq_true, false_implies, forall_const, and_false, false_and, Bool.not_eq_true', Bool.not_eq_false']
    obtain ⟨HF, IF', RF⟩ := play_rel hb s (min s.length 80)
    refine ⟨fun h => absurd h (by omega), fun _ => ⟨fun h => absurd h (by omega), fun _ => ⟨⟨by omega, by omega⟩, ⟨0, ⟨Nat.zero_le _, Nat.zero_le _⟩, rfl, rfl, rfl, rfl⟩, fun x ⟨hx, hx80⟩ => ⟨fun hlt => ⟨fun hlt80 => ?A, fun hge => ?B⟩, fun hge => ?C⟩⟩⟩⟩
    case A =>
      obtain ⟨H, J, R⟩ := play_rel hb s x
      refine ⟨by omega, hlt, ⟨fun l3 => ?_, fun l3 => ⟨fun l2 => ?_, fun l2 => ?_⟩⟩, fun e he => ⟨he, by omega, x + 1, ⟨by omega, by omega⟩, by omega, by omega, rfl, rfl, rfl⟩⟩
      · have e := step3 (t := playF n.toNat s x) (l := s.getD x []) (by omega)
        rw [← play_succ] at e
        have e' := rstep3 (t := rplF n s x) (l := s.getD x []) (by omega)
        rw [← rpl_succ] at e'
        exact ⟨⟨by omega, by omega, by omega, by omega, by omega, by omega, R.sh J⟩, ⟨by omega, by omega, by omega, by omega, by omega, by omega⟩, J.sh, _, writeE_k _ _ _ _, ⟨Rel.writeE J R _ _ _, rfl⟩, by rw [e], by rw [e], e'.symm⟩
      · have e := step2 (t := playF n.toNat s x) (l := s.getD x []) (by omega)
        rw [← play_succ] at e
        have e' := rstep2 (t := rplF n s x) (l := s.getD x []) (by omega)
        rw [← rpl_succ] at e'
        exact ⟨⟨by omega, by omega, by omega, by omega, R.sh J, fun h0 => Rel.syOk J R h0⟩, ⟨by omega, by omega, by omega, by omega⟩, J.sh, _, syncE_k _ _ _, ⟨Rel.syncE J R _ _, rfl⟩, by rw [e], by rw [e], e'.symm⟩
      · have e := step0 (t := playF n.toNat s x) (l := s.getD x []) (by omega) (by omega)
        rw [← play_succ] at e
        have e' := rstep0 (t := rplF n s x) (l := s.getD x []) (by omega) (by omega)
        rw [← rpl_succ] at e'
        exact ⟨0, by omega, ⟨rfl, rfl⟩, by rw [e], by rw [e], e'.symm⟩
    all_goals
      have ex : x = min s.length 80 := by omega
      rw [ex]
      generalize playF n.toNat s (min s.length 80) = T at *
      generalize rplF n s (min s.length 80) = X at *
      have r0 : ∀ p q : Int, inNet T p q = false → readF T p q = [] := fun p q h => by unfold readF; rw [if_neg (by rw [h]; decide)]
      have ra : readF T (-1) 0 = [] := r0 _ _ (by unfold inNet inB; rfl)
      have rb : readF T n 0 = [] := r0 _ _ (by
        cases hq : inNet T n 0 with
        | false => rfl
        | true => have := (inNet_iff.1 hq).1.2; rw [IF'.len] at this; omega)
      have rc : readF T 0 4 = [] := r0 _ _ (by
        cases hq : inNet T 0 4 with
        | false => rfl
        | true => have := (inNet_iff.1 hq).2.2; omega)
      have rd : ∀ p q : Nat, p < n.toNat → q < 4 → readF T (p : Int) (q : Int) = List.getD X.2.1 ((p : Int) * 4 + (q : Int)).toNat [] := fun p q hp hq => by
        have h1 : inNet T (p : Int) (q : Int) = true := inNet_iff.2 ⟨⟨by omega, by rw [IF'.len]; omega⟩, by omega, by omega⟩
        have h2 := RF.at' p q hp hq
        unfold readF; rw [if_pos h1]
        show vAt T (p : Int).toNat (q : Int).toNat = _
        rw [Int.toNat_natCast, Int.toNat_natCast, ← h2]; rfl
      have hXl : (X.2.1.length : Int) = (n.toNat : Int) * 4 := by rw [RF.hl]; omega
      simp only [ra, rb, rc, List.length_nil]
      refine ⟨⟨0, Nat.zero_le _, rfl, trivial, trivial, trivial⟩, fun y hy => ⟨fun hly => ⟨⟨0, Nat.zero_le _, rfl⟩, fun z hz => ⟨fun hlz => ?_, fun hgz => ⟨by omega, y + 1, by omega, by omega, by omega⟩⟩⟩, fun hgy => ⟨IF'.nlen, fun _ => ⟨IF'.nlen, fun _ => ⟨IF'.nlen, hk⟩, fun h => absurd rfl h⟩, fun h => absurd rfl h⟩⟩⟩
      have hr := rd y z (by omega) (by omega)
      refine ⟨by omega, by omega, by omega, by omega, IF'.nlen, ⟨by omega, by omega, by omega, by omega⟩, fun h => absurd hr h, fun _ => ⟨by omega, z + 1, by omega, by omega, by omega⟩⟩
theorem okLawGP : PlainOk Tryd.prog glE 4 cLawGP := by
  refine plain_of (CxOk.mk' (Eh_ok []) (by kernel_rfl) mixed (gl := glE) (GOk.cons okError Tryd.func6 (by kernel_rfl) (by kernel_rfl) (GOk.cons okNewR.lift Tryd.func24 (by kernel_rfl) (by kernel_rfl) (GOk.cons okRWrite.lift Tryd.func25 (by kernel_rfl) (by kernel_rfl) (GOk.cons okRSync.lift Tryd.func27 (by kernel_rfl) (by kernel_rfl) (GOk.cons okValues.lift Tryd.func29 (by kernel_rfl) (by kernel_rfl) GOk.nil))))) (GoOk.cons ownNew.lift Tryd.func23 (by kernel_rfl) (by kernel_rfl) (GoOk.cons ownWrite.lift Tryd.func26 (by kernel_rfl) (by kernel_rfl) (GoOk.cons ownSync.lift Tryd.func28 (by kernel_rfl) (by kernel_rfl) (GoOk.cons ownRead.lift Tryd.func30 (by kernel_rfl) (by kernel_rfl) GoOk.nil)))) noIt) Tryd.func4 (c := Tryd.f4.body.getD .skip) (rvs := [(.tmp 4, .bool)]) (by kernel_rfl) (by kernel_rfl) (by kernel_rfl) ?_
  intro ds k ⟨hp, hk⟩ hwf
  obtain ⟨n, s, rfl, -⟩ := dest2 hp
  exact ⟨anGP n s, lawGP_vc n s (wf2 hwf).2.1 k hk⟩
theorem glOkGP {W : World} (h : laidMetH Tryd.prog Rows.gossipPlaysRow.laid W) : GlOk glE W fun b => b < W.heap.size := glE_of (.head _) h
end Go.Proofs.YtgcliogognkdkaaDoor
