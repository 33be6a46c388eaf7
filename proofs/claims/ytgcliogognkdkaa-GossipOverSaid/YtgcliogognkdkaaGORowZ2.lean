/- Own texts, merged: GM2, GDef3, GV3, GIr, GVF, GOk3, GM3, GDef4, GV4, GLaw, GDef5. -/
import Derived.Test.YtgcliogognkdkaaGORowZ1
/- Nets: what holds of all that is written and told. -/
namespace Go.Proofs.Ytgcliogognkdkaa
open Go.Vc

/-! Of values that are joined the greatest are left. -/
def sumS : List Int → Int
  | [] => 0
  | x :: l => x + sumS l
theorem sumS_le : ∀ {a b : List Int}, a.length = b.length → (∀ i, i < a.length → a.getD i 0 ≤ b.getD i 0) → sumS a ≤ sumS b ∧ (sumS b ≤ sumS a → a = b)
  | [], [], _, _ => ⟨Int.le_refl _, fun _ => rfl⟩
  | [], _ :: _, h, _ => by simp at h
  | _ :: _, [], h, _ => by simp at h
  | x :: a, y :: b, h, hp => by
    have h0 : x ≤ y := by simpa using hp 0 (by simp)
    have ih := sumS_le (a := a) (b := b) (by simpa using h) fun i hi => by simpa using hp (i + 1) (by simp; omega)
    unfold sumS
    refine ⟨by omega, fun hs => ?_⟩
    have : x = y := by omega
    rw [this, ih.2 (by omega)]
theorem saw_sum {v w : Va} (hl : v.1.length = w.1.length) (h : sawB w v = true) : sumS v.1 ≤ sumS w.1 ∧ (sumS w.1 ≤ sumS v.1 → v.1 = w.1) :=
  sumS_le hl fun i hi => sawB_all.1 h i (by omega)
theorem ex_max {α : Type} (f : α → Int) : ∀ (l : List α), l ≠ [] → ∃ m ∈ l, ∀ x ∈ l, f x ≤ f m
  | [], h => absurd rfl h
  | [a], _ => ⟨a, by simp, fun x hx => by rw [List.mem_singleton] at hx; subst hx; exact Int.le_refl _⟩
  | a :: b :: l, _ => by
    obtain ⟨m, hm, h⟩ := ex_max f (b :: l) (by simp)
    by_cases hc : f m ≤ f a
    · refine ⟨a, List.mem_cons_self .., fun x hx => ?_⟩
      rcases List.mem_cons.1 hx with e | e
      · subst e; exact Int.le_refl _
      · exact Int.le_trans (h x e) hc
    · refine ⟨m, List.mem_cons_of_mem _ hm, fun x hx => ?_⟩
      rcases List.mem_cons.1 hx with e | e
      · subst e; omega
      · exact h x e
theorem dom_mrg {n : Nat} {all : List Va} (hn : ∀ v ∈ all, v.1.length = n) (hF : ∀ v ∈ all, ∀ w ∈ all, v.1 = w.1 → v = w) {v : Va} (hv : v ∈ all) : ∃ w ∈ mrgV all, sawB w v = true := by
  obtain ⟨m, hm, hmax⟩ := ex_max (fun x : Va => sumS x.1) (all.filter fun w => sawB w v) (fun e => by
    have : v ∈ all.filter fun w => sawB w v := List.mem_filter.2 ⟨hv, saw_refl v⟩
    rw [e] at this; cases this)
  obtain ⟨hma, hms⟩ := List.mem_filter.1 hm
  refine ⟨m, (mem_mrgV hn hF).2 ⟨hma, fun x hx hs => ?_⟩, hms⟩
  have hxv := saw_trans (by rw [hn x hx, hn m hma]; exact Nat.le_refl _) hs hms
  have h1 := hmax x (List.mem_filter.2 ⟨hx, hxv⟩)
  exact hF x hx m hma ((saw_sum (by rw [hn x hx, hn m hma]) hs).2 h1).symm

/-! What a write has seen. -/
theorem maxU_get (cur s : List Int) {q : Nat} (hq : q < cur.length) : ∀ j, (maxU cur s j).getD q 0 = if q < j then max (cur.getD q 0) (s.getD q 0) else cur.getD q 0
  | 0 => by rw [if_neg (by omega)]; rfl
  | j + 1 => by
    have ih := fun {q} (hq : q < cur.length) => maxU_get cur s hq j
    unfold maxU
    by_cases hj : j < cur.length
    · rw [getD_setL _ _ _ _ _ (by rw [maxU_len]; exact hj), ih hj, if_neg (Nat.lt_irrefl _)]
      by_cases e : q = j
      · subst e; rw [if_pos rfl, if_pos (by omega)]
      · rw [if_neg e, ih hq]
        by_cases h : q < j
        · rw [if_pos h, if_pos (by omega)]
        · rw [if_neg h, if_neg (by omega)]
    · rw [List.set_eq_of_length_le (by rw [maxU_len]; omega), ih hq, if_pos (by omega), if_pos (by omega)]
theorem accU_succ {vals : List Va} {n : Nat} (hn : ∀ v ∈ vals, v.1.length = n) {q i : Nat} (hq : q < n) (hi : i < vals.length) : (accU vals n (i + 1)).getD q 0 = max ((accU vals n i).getD q 0) ((vals.getD i va0).1.getD q 0) := by
  show (maxU (accU vals n i) (vals.getD i va0).1 (vals.getD i va0).1.length).getD q 0 = _
  rw [maxU_get _ _ (by rw [accU_len]; exact hq), if_pos (by rw [hn _ (getD_memL hi)]; exact hq)]
theorem accU_ge {vals : List Va} {n : Nat} (hn : ∀ v ∈ vals, v.1.length = n) {q : Nat} (hq : q < n) : ∀ i, i ≤ vals.length → 0 ≤ (accU vals n i).getD q 0 ∧ ∀ j, j < i → (vals.getD j va0).1.getD q 0 ≤ (accU vals n i).getD q 0
  | 0, _ => by
    refine ⟨?_, fun j hj => by omega⟩
    unfold accU
    rw [List.getD_eq_getElem?_getD, List.getElem?_replicate, if_pos hq]; exact Int.le_refl _
  | i + 1, hi => by
    obtain ⟨h1, h2⟩ := accU_ge hn hq i (by omega)
    rw [accU_succ hn hq (by omega)]
    refine ⟨by omega, fun j hj => ?_⟩
    by_cases e : j = i
    · subst e; omega
    · have := h2 j (by omega); omega
theorem accU_at {vals : List Va} {n : Nat} (hn : ∀ v ∈ vals, v.1.length = n) {q : Nat} (hq : q < n) : ∀ i, i ≤ vals.length → (accU vals n i).getD q 0 = 0 ∨ ∃ v ∈ vals, v.1.getD q 0 = (accU vals n i).getD q 0
  | 0, _ => by
    refine .inl ?_
    unfold accU
    rw [List.getD_eq_getElem?_getD, List.getElem?_replicate, if_pos hq]; rfl
  | i + 1, hi => by
    rw [accU_succ hn hq (by omega)]
    rcases Int.le_total ((accU vals n i).getD q 0) ((vals.getD i va0).1.getD q 0) with h | h
    · exact .inr ⟨_, getD_memL (d := va0) (i := i) (by omega), by omega⟩
    · rw [Int.max_eq_left h]; exact accU_at hn hq i (by omega)
theorem accU_mem {vals : List Va} {n : Nat} (hn : ∀ v ∈ vals, v.1.length = n) {q : Nat} (hq : q < n) {v : Va} (hv : v ∈ vals) : v.1.getD q 0 ≤ (accU vals n vals.length).getD q 0 := by
  obtain ⟨j, hj⟩ := List.getElem?_of_mem hv
  have hjl := (List.getElem?_eq_some_iff.1 hj).1
  have := (accU_ge hn hq vals.length (Nat.le_refl _)).2 j hjl
  have ew : vals.getD j va0 = v := by rw [List.getD_eq_getElem?_getD, hj]; rfl
  rwa [ew] at this

/-! The invariant: H k p v says that the value was written by p, at some time, at the key. -/
structure NInv (n : Nat) (W : Nat → Int → Prop) (H : Nat → Nat → Va → Prop) (t : Net) : Prop where
  len : t.1.length = n
  lo : 1 ≤ n
  hi : n ≤ 5
  wr : t.2.1.length = n
  row : ∀ r ∈ t.1, List.length r = 4
  cnt : ∀ i, i < n → 0 ≤ t.2.1.getD i 0 ∧ t.2.1.getD i 0 ≤ 60
  mem : ∀ i k v, v ∈ vAt t i k → ∃ p, H k p v
  sv : ∀ i k, SV' (vAt t i k)
  anti : ∀ i k v w, v ∈ vAt t i k → w ∈ vAt t i k → sawB v w = true → v = w
  hp : ∀ k p v, H k p v → p < n ∧ 1 ≤ v.1.getD p 0
  hl : ∀ k p v, H k p v → v.1.length = n
  hb : ∀ k p v, H k p v → ∀ q, q < n → 0 ≤ v.1.getD q 0 ∧ v.1.getD q 0 ≤ t.2.1.getD q 0
  hW : ∀ k p v, H k p v → W k v.2.1
  hc : ∀ k p v p' w, H k p v → H k p' w → v.1.getD p 0 ≤ w.1.getD p 0 → sawB w v = true
  hf : ∀ k p v p' w, H k p v → H k p' w → v.1 = w.1 → v = w
  hd : ∀ k p v, H k p v → ∃ w ∈ vAt t p k, sawB w v = true
section
variable {n : Nat} {W : Nat → Int → Prop} {H : Nat → Nat → Va → Prop} {t : Net}
theorem NInv.ln (I : NInv n W H t) {i k : Nat} {v : Va} (hv : v ∈ vAt t i k) : v.1.length = n := by
  obtain ⟨p, hp⟩ := I.mem i k v hv; exact I.hl k p v hp
theorem NInv.few (I : NInv n W H t) (i k : Nat) : (vAt t i k).length ≤ n := by
  have hw : ∃ f : Va → Nat, ∀ v ∈ vAt t i k, H k (f v) v := by
    refine ⟨fun v => if h : v ∈ vAt t i k then (I.mem i k v h).choose else 0, fun v hv => ?_⟩
    show H k (if h : v ∈ vAt t i k then (I.mem i k v h).choose else 0) v
    rw [dif_pos hv]; exact (I.mem i k v hv).choose_spec
  obtain ⟨f, hf⟩ := hw
  have hnd : ((vAt t i k).map f).Nodup := by
    refine List.pairwise_map.2 ((I.sv i k).imp_of_mem fun {a b} ha hb hab e => ?_)
    have h1 := hf a ha
    have h2 := hf b hb
    rw [← e] at h2
    have hne : a ≠ b := fun e => by subst e; rw [lexL_zero.2 rfl] at hab; exact absurd hab (by decide)
    rcases Int.le_total (a.1.getD (f a) 0) (b.1.getD (f a) 0) with hq | hq
    · exact hne (I.anti i k b a hb ha (I.hc k _ _ _ _ h1 h2 hq)).symm
    · exact hne (I.anti i k a b ha hb (I.hc k _ _ _ _ h2 h1 hq))
  have := hnd.length_le_of_subset (l₂ := List.range n) fun x hx => by
    obtain ⟨v, hv, rfl⟩ := List.mem_map.1 hx
    exact List.mem_range.2 (I.hp k _ v (hf v hv)).1
  rwa [List.length_map, List.length_range] at this
theorem mem_vAt (hr : ∀ r ∈ t.1, List.length r = 4) {r : List (List Va)} {l : List Va} (h1 : r ∈ t.1) (h2 : l ∈ r) : ∃ i k, l = vAt t i k := by
  obtain ⟨i, hi⟩ := List.getElem?_of_mem h1
  obtain ⟨k, hk⟩ := List.getElem?_of_mem h2
  refine ⟨i, k, ?_⟩
  unfold vAt
  rw [List.getD_eq_getElem?_getD (l := t.1), hi, Option.getD_some, List.getD_eq_getElem?_getD, hk, Option.getD_some]
theorem NInv.sh (I : NInv n W H t) : NetSh t where
  wr := by rw [I.wr, I.len]
  lo := by rw [I.len]; exact I.lo
  hi := by rw [I.len]; exact I.hi
  row := I.row
  len := fun r hr l hl => by
    obtain ⟨i, k, rfl⟩ := mem_vAt I.row hr hl
    have := I.few i k; have := I.hi; omega
  seen := fun r hr l hl v hv => by
    obtain ⟨i, k, rfl⟩ := mem_vAt I.row hr hl
    rw [I.ln hv, I.len]
  cnt := fun i hi => I.cnt i (by rw [← I.wr]; exact hi)
theorem NInv.nlen (I : NInv n W H t) : NetLen t :=
  ⟨fun r hr => ⟨I.row r hr, fun l hl => ⟨I.sh.len r hr l hl, fun v hv => by rw [I.sh.seen r hr l hl v hv, I.len]; have := I.hi; omega⟩⟩, by rw [I.len]; have := I.hi; omega⟩
theorem NInv.init (W : Nat → Int → Prop) (h1 : 1 ≤ n) (h5 : n ≤ 5) : NInv n W (fun _ _ _ => False) (newF n) := by
  have hv : ∀ i k, vAt (newF n) i k = [] := fun i k => by
    have hrow : (List.replicate n (List.replicate 4 ([] : List Va))).getD i (List.replicate 4 []) = List.replicate 4 [] := by
      rcases getD_memD (l := List.replicate n (List.replicate 4 ([] : List Va))) (i := i) (d := List.replicate 4 []) with h | ⟨h, -⟩
      · exact (List.mem_replicate.1 h).2
      · exact h
    unfold vAt newF
    rw [hrow]
    rcases getD_memD (l := (List.replicate 4 [] : List (List Va))) (i := k) (d := ([] : List Va)) with h2 | ⟨h2, -⟩
    · exact (List.mem_replicate.1 h2).2
    · exact h2
  exact {
    len := List.length_replicate, lo := h1, hi := h5, wr := List.length_replicate
    row := fun r hr => by rw [(List.mem_replicate.1 hr).2]; exact List.length_replicate
    cnt := fun i hi => by
      have e : (newF n).2.1.getD i 0 = 0 := by
        unfold newF
        rw [List.getD_eq_getElem?_getD, List.getElem?_replicate, if_pos hi]; rfl
      rw [e]; decide
    mem := fun i k v h => by rw [hv] at h; cases h
    sv := fun i k => by rw [hv]; exact List.Pairwise.nil
    anti := fun i k v w h => by rw [hv] at h; cases h
    hp := fun _ _ _ h => h.elim, hl := fun _ _ _ h => h.elim, hb := fun _ _ _ h => h.elim, hW := fun _ _ _ h => h.elim
    hc := fun _ _ _ _ _ h => h.elim, hf := fun _ _ _ _ _ h => h.elim, hd := fun _ _ _ h => h.elim }
theorem NInv.sync (I : NInv n W H t) (a b : Int) : NInv n W H (syncT t a b) := by
  unfold syncT
  by_cases hne : ¬ syncE t a b = 0
  · rw [if_neg hne]; exact I
  have h0 : syncE t a b = 0 := Decidable.of_not_not hne
  rw [if_pos h0]
  obtain ⟨ha, hb, hab⟩ : inNet t a 0 = true ∧ inNet t b 0 = true ∧ a ≠ b := by
    unfold syncE at h0
    cases ha : inNet t a 0 <;> cases hb : inNet t b 0 <;> simp [ha, hb] at h0
    exact ⟨rfl, rfl, h0⟩
  obtain ⟨⟨a0, a1⟩, -⟩ := inNet_iff.1 ha
  obtain ⟨⟨b0, b1⟩, -⟩ := inNet_iff.1 hb
  have hbl : b.toNat < t.1.length := by omega
  have hv := fun i j => vAt_sync I.row (a := a) (b := b) (by omega) hbl i j 4 (Nat.le_refl _)
  have hln : ∀ k, ∀ v ∈ vAt t b.toNat k ++ vAt t a.toNat k, v.1.length = n := fun k v h => (List.mem_append.1 h).elim (fun h => I.ln h) fun h => I.ln h
  have hmm : ∀ k, ∀ v ∈ vAt t b.toNat k ++ vAt t a.toNat k, ∃ p, H k p v := fun k v h => (List.mem_append.1 h).elim (fun h => I.mem _ _ _ h) fun h => I.mem _ _ _ h
  have hF : ∀ k, ∀ v ∈ vAt t b.toNat k ++ vAt t a.toNat k, ∀ w ∈ vAt t b.toNat k ++ vAt t a.toNat k, v.1 = w.1 → v = w := fun k v h w h' e => by
    obtain ⟨p, hp⟩ := hmm k v h
    obtain ⟨p', hp'⟩ := hmm k w h'
    exact I.hf k p v p' w hp hp' e
  exact {
    len := by rw [syncU_len]; exact I.len
    lo := I.lo, hi := I.hi
    wr := by rw [syncU_wr]; exact I.wr
    row := syncU_rows I.row hbl 4
    cnt := by rw [syncU_wr]; exact I.cnt
    mem := fun i k v h => by
      rw [hv] at h
      split at h
      · exact hmm k v ((mem_mrgV (hln k) (hF k)).1 h).1
      · exact I.mem i k v h
    sv := fun i k => by
      rw [hv]; split
      · exact ss_mrgV _
      · exact I.sv i k
    anti := fun i k v w h h' hs => by
      rw [hv] at h h'
      split at h
      · rename_i hc
        rw [if_pos hc] at h'
        exact ((mem_mrgV (hln k) (hF k)).1 h').2 v ((mem_mrgV (hln k) (hF k)).1 h).1 hs
      · rename_i hc
        rw [if_neg hc] at h'
        exact I.anti i k v w h h' hs
    hp := I.hp, hl := I.hl
    hb := by rw [syncU_wr]; exact I.hb
    hW := I.hW, hc := I.hc, hf := I.hf
    hd := fun k p v h => by
      obtain ⟨w, hw, hs⟩ := I.hd k p v h
      rw [hv]
      split
      · rename_i hc
        rw [hc.1] at hw
        obtain ⟨u, hu, hus⟩ := dom_mrg (hln k) (hF k) (List.mem_append_left _ hw)
        exact ⟨u, hu, saw_trans (by rw [hln k u ((mem_mrgV (hln k) (hF k)).1 hu).1, I.ln hw]; exact Nat.le_refl _) hus hs⟩
      · exact ⟨w, hw, hs⟩ }
theorem NInv.write (I : NInv n W H t) (p q v : Int) (hw : writeE t p q v = 0 → W q.toNat v) : ∃ H', NInv n W H' (writeT t p q v) := by
  unfold writeT
  by_cases hne : ¬ writeE t p q v = 0
  · rw [if_neg hne]; exact ⟨H, I⟩
  have h0 : writeE t p q v = 0 := Decidable.of_not_not hne
  have hW0 := hw h0
  rw [if_pos h0]
  obtain ⟨hi, h60⟩ : inNet t p q = true ∧ ¬ t.2.1.getD p.toNat 0 = 60 := by
    unfold writeE at h0
    split at h0
    · rename_i h
      rw [Bool.and_eq_true] at h
      refine ⟨h.1, fun e => ?_⟩
      rw [if_pos e] at h0; cases h0
    · cases h0
  obtain ⟨⟨p0, p1⟩, q0, q1⟩ := inNet_iff.1 hi
  have hpl : p.toNat < t.1.length := by omega
  have hpn : p.toNat < n := by rw [← I.len]; exact hpl
  have hrow : (t.1.getD p.toNat (List.replicate 4 [])).length = 4 := I.row _ (getD_memL hpl)
  have hv := fun i j => vAt_set (t := t) (p := p) (k := q) (l := [newV t p q v]) (w := upW t p) hpl (by rw [hrow]; omega) i j
  have hvals : valsAt t p q = vAt t p.toNat q.toNat := rfl
  have hn : ∀ w ∈ vAt t p.toNat q.toNat, w.1.length = n := fun w h => I.ln h
  have hup : ∀ i, i < n → (upW t p).getD i 0 = if i = p.toNat then t.2.1.getD p.toNat 0 + 1 else t.2.1.getD i 0 := fun i hi => by
    unfold upW; rw [getD_setL _ _ _ _ _ (by rw [I.wr]; exact hpn)]
  have hnl : (newV t p q v).1.length = n := by
    show (List.set _ _ _).length = n
    rw [List.length_set, accU_len, I.len]
  have hnv : ∀ i, i < n → (newV t p q v).1.getD i 0 = if i = p.toNat then t.2.1.getD p.toNat 0 + 1 else (accU (vAt t p.toNat q.toNat) n (vAt t p.toNat q.toNat).length).getD i 0 := fun i hi => by
    show (List.set _ _ _).getD i 0 = _
    rw [getD_setL _ _ _ _ _ (by rw [accU_len, I.len]; exact hpn), hup _ hpn, if_pos rfl, hvals, I.len]
  have hacc : ∀ i, i < n → 0 ≤ (accU (vAt t p.toNat q.toNat) n (vAt t p.toNat q.toNat).length).getD i 0 ∧ (accU (vAt t p.toNat q.toNat) n (vAt t p.toNat q.toNat).length).getD i 0 ≤ t.2.1.getD i 0 := fun i hi => by
    refine ⟨(accU_ge hn hi _ (Nat.le_refl _)).1, ?_⟩
    rcases accU_at hn hi _ (Nat.le_refl _) with e | ⟨w, hw, e⟩
    · rw [e]; exact (I.cnt i hi).1
    · rw [← e]
      obtain ⟨p', hp'⟩ := I.mem _ _ _ hw
      exact (I.hb _ _ _ hp' i hi).2
  have hge : ∀ i, i < n → (accU (vAt t p.toNat q.toNat) n (vAt t p.toNat q.toNat).length).getD i 0 ≤ (newV t p q v).1.getD i 0 := fun i hi => by
    rw [hnv i hi]
    have := hacc i hi
    split
    · rename_i e; subst e; omega
    · omega
  have hover : ∀ w x, w ∈ vAt t p.toNat q.toNat → x.1.length = n → sawB w x = true → sawB (newV t p q v) x = true := fun w x hw hx hs => by
    refine sawB_all.2 fun i hi => ?_
    rw [hnl] at hi
    have h1 := sawB_all.1 hs i (by rw [hn w hw]; exact hi)
    have h2 := accU_mem hn hi hw
    have h3 := hge i hi
    omega
  have hupp : (upW t p).getD p.toNat 0 = t.2.1.getD p.toNat 0 + 1 := by rw [hup _ hpn, if_pos rfl]
  have hnvp : (newV t p q v).1.getD p.toNat 0 = t.2.1.getD p.toNat 0 + 1 := by rw [hnv _ hpn, if_pos rfl]
  have hcp := I.cnt p.toNat hpn
  have oldnew : ∀ p' x, H q.toNat p' x → x.1.getD p' 0 ≤ (newV t p q v).1.getD p' 0 → sawB (newV t p q v) x = true := fun p' x hx hle => by
    by_cases e : p' = p.toNat
    · subst e
      obtain ⟨w, hw, hs⟩ := I.hd _ _ _ hx
      exact hover w x hw (I.hl _ _ _ hx) hs
    · obtain ⟨l1, l2⟩ := I.hp _ _ _ hx
      rw [hnv _ l1, if_neg e] at hle
      rcases accU_at hn l1 _ (Nat.le_refl _) with e2 | ⟨w, hw, e2⟩
      · omega
      · obtain ⟨p'', hp''⟩ := I.mem _ _ _ hw
        exact hover w x hw (I.hl _ _ _ hx) (I.hc _ _ _ _ _ hx hp'' (by omega))
  refine ⟨fun k' p' v' => H k' p' v' ∨ (k' = q.toNat ∧ p' = p.toNat ∧ v' = newV t p q v), ?_⟩
  exact {
    len := by show (setAt t p q _).length = n; rw [setAt_len]; exact I.len
    lo := I.lo, hi := I.hi
    wr := by show (upW t p).length = n; unfold upW; rw [List.length_set]; exact I.wr
    row := setAt_rows I.row hpl
    cnt := fun i hi => by
      show 0 ≤ (upW t p).getD i 0 ∧ (upW t p).getD i 0 ≤ 60
      rw [hup i hi]
      have := I.cnt i hi
      split <;> omega
    mem := fun i k x h => by
      rw [hv] at h
      split at h
      · rename_i hc
        rw [List.mem_singleton] at h
        exact ⟨p.toNat, .inr ⟨hc.2, rfl, h⟩⟩
      · obtain ⟨p', hp'⟩ := I.mem i k x h
        exact ⟨p', .inl hp'⟩
    sv := fun i k => by
      rw [hv]; split
      · exact List.pairwise_singleton ..
      · exact I.sv i k
    anti := fun i k x y h h' hs => by
      rw [hv] at h h'
      split at h
      · rename_i hc
        rw [if_pos hc] at h'
        rw [List.mem_singleton] at h h'
        rw [h, h']
      · rename_i hc
        rw [if_neg hc] at h'
        exact I.anti i k x y h h' hs
    hp := fun k p' x h => by
      rcases h with h | ⟨-, rfl, rfl⟩
      · exact I.hp k p' x h
      · exact ⟨hpn, by omega⟩
    hl := fun k p' x h => by
      rcases h with h | ⟨-, -, rfl⟩
      · exact I.hl k p' x h
      · exact hnl
    hb := fun k p' x h i hi => by
      show 0 ≤ x.1.getD i 0 ∧ x.1.getD i 0 ≤ (upW t p).getD i 0
      rw [hup i hi]
      rcases h with h | ⟨-, -, rfl⟩
      · have := I.hb k p' x h i hi
        split
        · rename_i e; subst e; omega
        · exact this
      · rw [hnv i hi]
        have := hacc i hi
        split
        · omega
        · exact this
    hW := fun k p' x h => by
      rcases h with h | ⟨rfl, -, rfl⟩
      · exact I.hW k p' x h
      · exact hW0
    hc := fun k p' x p'' y h h' hle => by
      rcases h with h | ⟨rfl, rfl, rfl⟩
      · rcases h' with h' | ⟨rfl, rfl, rfl⟩
        · exact I.hc k p' x p'' y h h' hle
        · exact oldnew p' x h hle
      · rcases h' with h' | ⟨-, -, rfl⟩
        · have := (I.hb _ _ _ h' p.toNat hpn).2
          omega
        · exact saw_refl _
    hf := fun k p' x p'' y h h' e => by
      rcases h with h | ⟨-, -, rfl⟩
      · rcases h' with h' | ⟨-, -, rfl⟩
        · exact I.hf k p' x p'' y h h' e
        · have := (I.hb _ _ _ h p.toNat hpn).2
          rw [e] at this; omega
      · rcases h' with h' | ⟨-, -, rfl⟩
        · have := (I.hb _ _ _ h' p.toNat hpn).2
          rw [← e] at this; omega
        · rfl
    hd := fun k p' x h => by
      rcases h with h | ⟨rfl, rfl, rfl⟩
      · obtain ⟨w, hw, hs⟩ := I.hd k p' x h
        rw [hv]
        split
        · rename_i hc
          rw [hc.1, hc.2] at hw
          exact ⟨_, List.mem_singleton.2 rfl, hover w x hw (I.hl _ _ _ h) hs⟩
        · exact ⟨w, hw, hs⟩
      · rw [hv, if_pos ⟨rfl, rfl⟩]
        exact ⟨_, List.mem_singleton.2 rfl, saw_refl _⟩ }
end
end Go.Proofs.Ytgcliogognkdkaa

/- Nets: what is played, and told around. -/
namespace Go.Proofs.Ytgcliogognkdkaa
open Go.Vc
def stepT (t : Net) (l : List Int) : Net :=
  if l.length = 3 then writeT t (l.getD 0 0) (l.getD 1 0) (l.getD 2 0) else if l.length = 2 then syncT t (l.getD 0 0) (l.getD 1 0) else t
def playF (n : Nat) (steps : List (List Int)) : Nat → Net
  | 0 => newF n
  | i + 1 => stepT (playF n steps i) (steps.getD i [])
def playN (n : Int) (steps : List (List Int)) (m : Nat) : Net := playF n.toNat steps (min steps.length m)
def cFactG : Ctr := cdet [] True [⟨.bool, true⟩]
def oPlayed : OCtr := fun args ob k => match args, ob with
  | [.d (.int .i64) n, .d (.sl (.sl (.int .i64))) steps], [] => (inB n 1 5 = false → k (.tp [.nilp, .d .bool false]) []) ∧ (inB n 1 5 = true → k (.tp [.ps 0, .d .bool true]) (obNet (playN n steps 60)))
  | _, _ => False
def anPlay (r a b : Nat) (keep : List Nat) (n : Int) (steps : List (List Int)) (m : Nat) : Nat × LoopAnn :=
  loopAt r Nat [] (fun st i => { St.at (St.only st keep) [(a, .d I (i : Int))] with ob := obNet (playF n.toNat steps i) }) (fun _ i => (i ≤ steps.length ∧ i ≤ m) ∧ inB n 1 5 = true) (fun i => b - i)
def anPlayed (n : Int) (steps : List (List Int)) : Ann := [joinAll, anPlay 5 8 100 [0, 1, 6] n steps 60]
/-- one tells all -/
def arQ (p : Nat) (t : Net) : Nat → Net
  | 0 => t
  | q + 1 => if ¬ (p : Int) = (q : Int) then syncT (arQ p t q) (p : Int) (q : Int) else arQ p t q
def arP (n : Nat) (t : Net) : Nat → Net
  | 0 => t
  | p + 1 => arQ p (arP n t p) n
def arF (t : Net) : Net := arP t.1.length t t.1.length
/-- all tell all, the last one first -/
def dnP (n : Nat) (t : Net) : Nat → Net
  | 0 => t
  | m + 1 => arQ (n - 1 - m) (dnP n t m) n
def NOk (t : Net) : Prop := ∃ W H, NInv t.1.length W H t
def oAround : OCtr := fun args ob k => match args, ob with
  | [.ps 0, .d (.int .i64) n], [.st 77 [.os 1, .os 2], .row 74 (.ar 4 (.sl (.pr (.sl (.int .i64)) (.pr (.int .i64) .un)))) nodes, .row 3 (.int .i64) wrote] =>
    (NOk (nodes, wrote, ()) ∧ (n : Int) = (List.length nodes : Int)) ∧ k (.d .bool true) (obNet (arF (nodes, wrote, ())))
  | _, _ => False
def anAround (t : Net) : Ann := [joinAll,
  loopAt 2 Nat [] (fun st p => { St.at (St.only st [0, 1]) [(5, .d I (p : Int))] with ob := obNet (arP t.1.length t p) }) (fun _ p => p ≤ t.1.length ∧ True) (fun p => t.1.length - p),
  loopAt 5 Nat [] (fun st q => { St.at (St.only st [0, 1, 5]) [(6, .d I (q : Int))] with ob := obNet (arQ (st.i 5).toNat (arP t.1.length t (st.i 5).toNat) q) }) (fun _ q => q ≤ t.1.length ∧ True) (fun q => t.1.length - q)]
/-- reading, seen from who holds the net: a row of the call's own -/
def oRead : OCtr := fun args ob k => match args, ob with
  | [.ps 0, .d (.int .i64) p, .d (.int .i64) q], [.st 77 [.os 1, .os 2], .row 74 (.ar 4 (.sl (.pr (.sl (.int .i64)) (.pr (.int .i64) .un)))) nodes, .row 3 (.int .i64) wrote] =>
    NetLen (nodes, wrote, ()) ∧ k (.os 1) [.st 77 [.os 2, .os 3], .row 52 tV (readF (nodes, wrote, ()) p q), .row 74 tRow nodes, .row 3 I wrote]
  | _, _ => False
def anReadO (t : Net) (p k : Int) : Ann := [joinAll, loopAt 5 Nat [(7, 52, tV)] (fun st i => { St.at (St.only st [0, 7, 23, 24]) [(25, .d I (i : Int))] with ob := obNet t ++ [.row 52 tV ((valsAt t p k).take i)] }) (fun _ i => i ≤ (valsAt t p k).length ∧ inNet t p k = true) (fun i => (valsAt t p k).length - i)]
end Go.Proofs.Ytgcliogognkdkaa

/- What the functions of this seat have to satisfy, by program: each verification condition in plain words. -/
namespace Go.Proofs.Ytgcliogognkdkaa
open Go.Vc
set_option linter.unusedVariables false
theorem vcPlayed (n : Int) (s : List (List Int)) (k : SV → List Ob → Prop) : vcO ⟨Eg, [], [], [], [(26, oSync), (28, oWrite), (29, oNew)]⟩ (anPlayed n s) (Try.f23.body.getD .skip) Try.f23.ntmps [(.tmp 4, .un), (.tmp 5, .bool)] [.d I n, .d (.sl (.sl I)) s] [] k = (
  (inB n (1 : Int) (5 : Int) = false → ((!decide ((1 : Int) = (0 : Int))) = true → k (SV.tp [SV.nilp, SV.d Ty.bool false]) []) ∧ ((!decide ((1 : Int) = (0 : Int))) = false → (∃ (x : Nat), ((x ≤ s.length ∧ x ≤ (60 : Nat)) ∧ inB n (1 : Int) (5 : Int) = true) ∧ (n = n ∧ s = s ∧ True ∧ (0 : Int) = (↑x : Int) ∧ True) ∧ (False ∧ False ∧ False ∧ True) ∧ n = n ∧ s = s ∧ True) ∧ ∀ (x : Nat), (x ≤ s.length ∧ x ≤ (60 : Nat)) ∧ inB n (1 : Int) (5 : Int) = true → (decide ((↑x : Int) < (↑s.length : Int)) = true → (decide ((↑x : Int) < (60 : Int)) = true → (0 : Int) ≤ (↑x : Int) ∧ (↑x : Int) < (↑s.length : Int) ∧ (decide ((↑(s.getD (↑x : Int).toNat []).length : Int) = (3 : Int)) = true → ((0 : Int) ≤ (0 : Int) ∧ (0 : Int) < (↑(s.getD (↑x : Int).toNat []).length : Int) ∧ (0 : Int) ≤ (1 : Int) ∧ (1 : Int) < (↑(s.getD (↑x : Int).toNat []).length : Int) ∧ (0 : Int) ≤ (2 : Int) ∧ (2 : Int) < (↑(s.getD (↑x : Int).toNat []).length : Int) ∧ True) ∧ False) ∧ (decide ((↑(s.getD (↑x : Int).toNat []).length : Int) = (3 : Int)) = false → (decide ((↑(s.getD (↑x : Int).toNat []).length : Int) = (2 : Int)) = true → ((0 : Int) ≤ (0 : Int) ∧ (0 : Int) < (↑(s.getD (↑x : Int).toNat []).length : Int) ∧ (0 : Int) ≤ (1 : Int) ∧ (1 : Int) < (↑(s.getD (↑x : Int).toNat []).length : Int) ∧ True) ∧ False) ∧ (decide ((↑(s.getD (↑x : Int).toNat []).length : Int) = (2 : Int)) = false → inK IntKind.i64 ((↑x : Int) + (1 : Int)) ∧ ∃ (x_1 : Nat), ((x_1 ≤ s.length ∧ x_1 ≤ (60 : Nat)) ∧ inB n (1 : Int) (5 : Int) = true) ∧ (100 : Nat) - x_1 < (100 : Nat) - x ∧ (n = n ∧ s = s ∧ True ∧ (↑x : Int) + (1 : Int) = (↑x_1 : Int) ∧ True) ∧ ((True ∧ True ∧ True) ∧ ((74 : Nat) = (74 : Nat) ∧ (playF n.toNat s x).fst = (playF n.toNat s x_1).fst) ∧ ((3 : Nat) = (3 : Nat) ∧ (playF n.toNat s x).snd.fst = (playF n.toNat s x_1).snd.fst) ∧ True) ∧ n = n ∧ s = s ∧ True))) ∧ (decide ((↑x : Int) < (60 : Int)) = false → k (SV.tp [SV.nilp, SV.d Ty.bool true]) [])) ∧ (decide ((↑x : Int) < (↑s.length : Int)) = false → k (SV.tp [SV.nilp, SV.d Ty.bool true]) []))) ∧ (inB n (1 : Int) (5 : Int) = true → ((!decide ((0 : Int) = (0 : Int))) = true → k (SV.tp [SV.ps (0 : Nat), SV.d Ty.bool false]) [Ob.st (77 : Nat) [SV.os (1 : Nat), SV.os (2 : Nat)], Ob.row (74 : Nat) (Ty.ar (4 : Nat) (tV).sl) (List.replicate n.toNat (List.replicate (4 : Nat) [])), Ob.row (3 : Nat) (I) (List.replicate n.toNat (0 : Int))]) ∧ ((!decide ((0 : Int) = (0 : Int))) = false → (∃ (x : Nat), ((x ≤ s.length ∧ x ≤ (60 : Nat)) ∧ inB n (1 : Int) (5 : Int) = true) ∧ (n = n ∧ s = s ∧ True ∧ (0 : Int) = (↑x : Int) ∧ True) ∧ ((True ∧ True ∧ True) ∧ ((74 : Nat) = (74 : Nat) ∧ List.replicate n.toNat (List.replicate (4 : Nat) []) = (playF n.toNat s x).fst) ∧ ((3 : Nat) = (3 : Nat) ∧ List.replicate n.toNat (0 : Int) = (playF n.toNat s x).snd.fst) ∧ True) ∧ n = n ∧ s = s ∧ True) ∧ ∀ (x : Nat), (x ≤ s.length ∧ x ≤ (60 : Nat)) ∧ inB n (1 : Int) (5 : Int) = true → (decide ((↑x : Int) < (↑s.length : Int)) = true → (decide ((↑x : Int) < (60 : Int)) = true → (0 : Int) ≤ (↑x : Int) ∧ (↑x : Int) < (↑s.length : Int) ∧ (decide ((↑(s.getD (↑x : Int).toNat []).length : Int) = (3 : Int)) = true → ((0 : Int) ≤ (0 : Int) ∧ (0 : Int) < (↑(s.getD (↑x : Int).toNat []).length : Int) ∧ (0 : Int) ≤ (1 : Int) ∧ (1 : Int) < (↑(s.getD (↑x : Int).toNat []).length : Int) ∧ (0 : Int) ≤ (2 : Int) ∧ (2 : Int) < (↑(s.getD (↑x : Int).toNat []).length : Int) ∧ True) ∧ NetSh ((playF n.toNat s x).fst, (playF n.toNat s x).snd.fst, ()) ∧ (decide ((↑(s.getD (↑x : Int).toNat []).length : Int) = (2 : Int)) = true → ((0 : Int) ≤ (0 : Int) ∧ (0 : Int) < (↑(s.getD (↑x : Int).toNat []).length : Int) ∧ (0 : Int) ≤ (1 : Int) ∧ (1 : Int) < (↑(s.getD (↑x : Int).toNat []).length : Int) ∧ True) ∧ NetSh ((writeT ((playF n.toNat s x).fst, (playF n.toNat s x).snd.fst, ()) ((s.getD (↑x : Int).toNat []).getD (Int.toNat (0 : Int)) (0 : Int)) ((s.getD (↑x : Int).toNat []).getD (Int.toNat (1 : Int)) (0 : Int)) ((s.getD (↑x : Int).toNat []).getD (Int.toNat (2 : Int)) (0 : Int))).fst, (writeT ((playF n.toNat s x).fst, (playF n.toNat s x).snd.fst, ()) ((s.getD (↑x : Int).toNat []).getD (Int.toNat (0 : Int)) (0 : Int)) ((s.getD (↑x : Int).toNat []).getD (Int.toNat (1 : Int)) (0 : Int)) ((s.getD (↑x : Int).toNat []).getD (Int.toNat (2 : Int)) (0 : Int))).snd.fst, ()) ∧ inK IntKind.i64 ((↑x : Int) + (1 : Int)) ∧ ∃ (x_1 : Nat), ((x_1 ≤ s.length ∧ x_1 ≤ (60 : Nat)) ∧ inB n (1 : Int) (5 : Int) = true) ∧ (100 : Nat) - x_1 < (100 : Nat) - x ∧ (n = n ∧ s = s ∧ True ∧ (↑x : Int) + (1 : Int) = (↑x_1 : Int) ∧ True) ∧ ((True ∧ True ∧ True) ∧ ((74 : Nat) = (74 : Nat) ∧ (syncT ((writeT ((playF n.toNat s x).fst, (playF n.toNat s x).snd.fst, ()) ((s.getD (↑x : Int).toNat []).getD (Int.toNat (0 : Int)) (0 : Int)) ((s.getD (↑x : Int).toNat []).getD (Int.toNat (1 : Int)) (0 : Int)) ((s.getD (↑x : Int).toNat []).getD (Int.toNat (2 : Int)) (0 : Int))).fst, (writeT ((playF n.toNat s x).fst, (playF n.toNat s x).snd.fst, ()) ((s.getD (↑x : Int).toNat []).getD (Int.toNat (0 : Int)) (0 : Int)) ((s.getD (↑x : Int).toNat []).getD (Int.toNat (1 : Int)) (0 : Int)) ((s.getD (↑x : Int).toNat []).getD (Int.toNat (2 : Int)) (0 : Int))).snd.fst, ()) ((s.getD (↑x : Int).toNat []).getD (Int.toNat (0 : Int)) (0 : Int)) ((s.getD (↑x : Int).toNat []).getD (Int.toNat (1 : Int)) (0 : Int))).fst = (playF n.toNat s x_1).fst) ∧ ((3 : Nat) = (3 : Nat) ∧ (syncT ((writeT ((playF n.toNat s x).fst, (playF n.toNat s x).snd.fst, ()) ((s.getD (↑x : Int).toNat []).getD (Int.toNat (0 : Int)) (0 : Int)) ((s.getD (↑x : Int).toNat []).getD (Int.toNat (1 : Int)) (0 : Int)) ((s.getD (↑x : Int).toNat []).getD (Int.toNat (2 : Int)) (0 : Int))).fst, (writeT ((playF n.toNat s x).fst, (playF n.toNat s x).snd.fst, ()) ((s.getD (↑x : Int).toNat []).getD (Int.toNat (0 : Int)) (0 : Int)) ((s.getD (↑x : Int).toNat []).getD (Int.toNat (1 : Int)) (0 : Int)) ((s.getD (↑x : Int).toNat []).getD (Int.toNat (2 : Int)) (0 : Int))).snd.fst, ()) ((s.getD (↑x : Int).toNat []).getD (Int.toNat (0 : Int)) (0 : Int)) ((s.getD (↑x : Int).toNat []).getD (Int.toNat (1 : Int)) (0 : Int))).snd.fst = (playF n.toNat s x_1).snd.fst) ∧ True) ∧ n = n ∧ s = s ∧ True) ∧ (decide ((↑(s.getD (↑x : Int).toNat []).length : Int) = (2 : Int)) = false → inK IntKind.i64 ((↑x : Int) + (1 : Int)) ∧ ∃ (x_1 : Nat), ((x_1 ≤ s.length ∧ x_1 ≤ (60 : Nat)) ∧ inB n (1 : Int) (5 : Int) = true) ∧ (100 : Nat) - x_1 < (100 : Nat) - x ∧ (n = n ∧ s = s ∧ True ∧ (↑x : Int) + (1 : Int) = (↑x_1 : Int) ∧ True) ∧ ((True ∧ True ∧ True) ∧ ((74 : Nat) = (74 : Nat) ∧ (writeT ((playF n.toNat s x).fst, (playF n.toNat s x).snd.fst, ()) ((s.getD (↑x : Int).toNat []).getD (Int.toNat (0 : Int)) (0 : Int)) ((s.getD (↑x : Int).toNat []).getD (Int.toNat (1 : Int)) (0 : Int)) ((s.getD (↑x : Int).toNat []).getD (Int.toNat (2 : Int)) (0 : Int))).fst = (playF n.toNat s x_1).fst) ∧ ((3 : Nat) = (3 : Nat) ∧ (writeT ((playF n.toNat s x).fst, (playF n.toNat s x).snd.fst, ()) ((s.getD (↑x : Int).toNat []).getD (Int.toNat (0 : Int)) (0 : Int)) ((s.getD (↑x : Int).toNat []).getD (Int.toNat (1 : Int)) (0 : Int)) ((s.getD (↑x : Int).toNat []).getD (Int.toNat (2 : Int)) (0 : Int))).snd.fst = (playF n.toNat s x_1).snd.fst) ∧ True) ∧ n = n ∧ s = s ∧ True)) ∧ (decide ((↑(s.getD (↑x : Int).toNat []).length : Int) = (3 : Int)) = false → (decide ((↑(s.getD (↑x : Int).toNat []).length : Int) = (2 : Int)) = true → ((0 : Int) ≤ (0 : Int) ∧ (0 : Int) < (↑(s.getD (↑x : Int).toNat []).length : Int) ∧ (0 : Int) ≤ (1 : Int) ∧ (1 : Int) < (↑(s.getD (↑x : Int).toNat []).length : Int) ∧ True) ∧ NetSh ((playF n.toNat s x).fst, (playF n.toNat s x).snd.fst, ()) ∧ inK IntKind.i64 ((↑x : Int) + (1 : Int)) ∧ ∃ (x_1 : Nat), ((x_1 ≤ s.length ∧ x_1 ≤ (60 : Nat)) ∧ inB n (1 : Int) (5 : Int) = true) ∧ (100 : Nat) - x_1 < (100 : Nat) - x ∧ (n = n ∧ s = s ∧ True ∧ (↑x : Int) + (1 : Int) = (↑x_1 : Int) ∧ True) ∧ ((True ∧ True ∧ True) ∧ ((74 : Nat) = (74 : Nat) ∧ (syncT ((playF n.toNat s x).fst, (playF n.toNat s x).snd.fst, ()) ((s.getD (↑x : Int).toNat []).getD (Int.toNat (0 : Int)) (0 : Int)) ((s.getD (↑x : Int).toNat []).getD (Int.toNat (1 : Int)) (0 : Int))).fst = (playF n.toNat s x_1).fst) ∧ ((3 : Nat) = (3 : Nat) ∧ (syncT ((playF n.toNat s x).fst, (playF n.toNat s x).snd.fst, ()) ((s.getD (↑x : Int).toNat []).getD (Int.toNat (0 : Int)) (0 : Int)) ((s.getD (↑x : Int).toNat []).getD (Int.toNat (1 : Int)) (0 : Int))).snd.fst = (playF n.toNat s x_1).snd.fst) ∧ True) ∧ n = n ∧ s = s ∧ True) ∧ (decide ((↑(s.getD (↑x : Int).toNat []).length : Int) = (2 : Int)) = false → inK IntKind.i64 ((↑x : Int) + (1 : Int)) ∧ ∃ (x_1 : Nat), ((x_1 ≤ s.length ∧ x_1 ≤ (60 : Nat)) ∧ inB n (1 : Int) (5 : Int) = true) ∧ (100 : Nat) - x_1 < (100 : Nat) - x ∧ (n = n ∧ s = s ∧ True ∧ (↑x : Int) + (1 : Int) = (↑x_1 : Int) ∧ True) ∧ ((True ∧ True ∧ True) ∧ ((74 : Nat) = (74 : Nat) ∧ (playF n.toNat s x).fst = (playF n.toNat s x_1).fst) ∧ ((3 : Nat) = (3 : Nat) ∧ (playF n.toNat s x).snd.fst = (playF n.toNat s x_1).snd.fst) ∧ True) ∧ n = n ∧ s = s ∧ True))) ∧ (decide ((↑x : Int) < (60 : Int)) = false → k (SV.tp [SV.ps (0 : Nat), SV.d Ty.bool true]) [Ob.st (77 : Nat) [SV.os (1 : Nat), SV.os (2 : Nat)], Ob.row (74 : Nat) (Ty.ar (4 : Nat) (tV).sl) (playF n.toNat s x).fst, Ob.row (3 : Nat) (I) (playF n.toNat s x).snd.fst])) ∧ (decide ((↑x : Int) < (↑s.length : Int)) = false → k (SV.tp [SV.ps (0 : Nat), SV.d Ty.bool true]) [Ob.st (77 : Nat) [SV.os (1 : Nat), SV.os (2 : Nat)], Ob.row (74 : Nat) (Ty.ar (4 : Nat) (tV).sl) (playF n.toNat s x).fst, Ob.row (3 : Nat) (I) (playF n.toNat s x).snd.fst])))) := by kernel_rfl
theorem vcAround (nd : List (List (List Va))) (wr : List Int) (n : Int) (k : SV → List Ob → Prop) : vcO ⟨Eg, [], [], [], [(26, oSync)]⟩ (anAround (nd, wr, ())) (Try.f25.body.getD .skip) Try.f25.ntmps [(.tmp 4, .bool)] [.ps 0, .d I n] [.st 77 [.os 1, .os 2], .row 74 tRow nd, .row 3 I wr] k = (
  (∃ (x : Nat), (x ≤ nd.length ∧ True) ∧ (True ∧ n = n ∧ (0 : Int) = (↑x : Int) ∧ True) ∧ ((True ∧ True ∧ True) ∧ ((74 : Nat) = (74 : Nat) ∧ nd = (arP nd.length (nd, wr, ()) x).fst) ∧ ((3 : Nat) = (3 : Nat) ∧ wr = (arP nd.length (nd, wr, ()) x).snd.fst) ∧ True) ∧ True ∧ n = n ∧ True) ∧ ∀ (x : Nat), x ≤ nd.length ∧ True → (decide ((↑x : Int) < n) = true → (∃ (x_1 : Nat), (x_1 ≤ nd.length ∧ True) ∧ (True ∧ n = n ∧ (↑x : Int) = (↑x : Int) ∧ (0 : Int) = (↑x_1 : Int) ∧ True) ∧ ((True ∧ True ∧ True) ∧ ((74 : Nat) = (74 : Nat) ∧ (arP nd.length (nd, wr, ()) x).fst = (arQ (↑x : Int).toNat (arP nd.length (nd, wr, ()) (↑x : Int).toNat) x_1).fst) ∧ ((3 : Nat) = (3 : Nat) ∧ (arP nd.length (nd, wr, ()) x).snd.fst = (arQ (↑x : Int).toNat (arP nd.length (nd, wr, ()) (↑x : Int).toNat) x_1).snd.fst) ∧ True) ∧ True ∧ n = n ∧ True) ∧ ∀ (x_1 : Nat), x_1 ≤ nd.length ∧ True → (decide ((↑x_1 : Int) < n) = true → ((!decide ((↑x : Int) = (↑x_1 : Int))) = true → NetSh ((arQ (↑x : Int).toNat (arP nd.length (nd, wr, ()) (↑x : Int).toNat) x_1).fst, (arQ (↑x : Int).toNat (arP nd.length (nd, wr, ()) (↑x : Int).toNat) x_1).snd.fst, ()) ∧ ((!decide (syncE ((arQ (↑x : Int).toNat (arP nd.length (nd, wr, ()) (↑x : Int).toNat) x_1).fst, (arQ (↑x : Int).toNat (arP nd.length (nd, wr, ()) (↑x : Int).toNat) x_1).snd.fst, ()) (↑x : Int) (↑x_1 : Int) = (0 : Int))) = true → k (SV.d Ty.bool false) [Ob.st (77 : Nat) [SV.os (1 : Nat), SV.os (2 : Nat)], Ob.row (74 : Nat) (Ty.ar (4 : Nat) (tV).sl) (syncT ((arQ (↑x : Int).toNat (arP nd.length (nd, wr, ()) (↑x : Int).toNat) x_1).fst, (arQ (↑x : Int).toNat (arP nd.length (nd, wr, ()) (↑x : Int).toNat) x_1).snd.fst, ()) (↑x : Int) (↑x_1 : Int)).fst, Ob.row (3 : Nat) (I) (syncT ((arQ (↑x : Int).toNat (arP nd.length (nd, wr, ()) (↑x : Int).toNat) x_1).fst, (arQ (↑x : Int).toNat (arP nd.length (nd, wr, ()) (↑x : Int).toNat) x_1).snd.fst, ()) (↑x : Int) (↑x_1 : Int)).snd.fst]) ∧ ((!decide (syncE ((arQ (↑x : Int).toNat (arP nd.length (nd, wr, ()) (↑x : Int).toNat) x_1).fst, (arQ (↑x : Int).toNat (arP nd.length (nd, wr, ()) (↑x : Int).toNat) x_1).snd.fst, ()) (↑x : Int) (↑x_1 : Int) = (0 : Int))) = false → inK IntKind.i64 ((↑x_1 : Int) + (1 : Int)) ∧ ∃ (x_2 : Nat), (x_2 ≤ nd.length ∧ True) ∧ nd.length - x_2 < nd.length - x_1 ∧ (True ∧ n = n ∧ (↑x : Int) = (↑x : Int) ∧ (↑x_1 : Int) + (1 : Int) = (↑x_2 : Int) ∧ True) ∧ ((True ∧ True ∧ True) ∧ ((74 : Nat) = (74 : Nat) ∧ (syncT ((arQ (↑x : Int).toNat (arP nd.length (nd, wr, ()) (↑x : Int).toNat) x_1).fst, (arQ (↑x : Int).toNat (arP nd.length (nd, wr, ()) (↑x : Int).toNat) x_1).snd.fst, ()) (↑x : Int) (↑x_1 : Int)).fst = (arQ (↑x : Int).toNat (arP nd.length (nd, wr, ()) (↑x : Int).toNat) x_2).fst) ∧ ((3 : Nat) = (3 : Nat) ∧ (syncT ((arQ (↑x : Int).toNat (arP nd.length (nd, wr, ()) (↑x : Int).toNat) x_1).fst, (arQ (↑x : Int).toNat (arP nd.length (nd, wr, ()) (↑x : Int).toNat) x_1).snd.fst, ()) (↑x : Int) (↑x_1 : Int)).snd.fst = (arQ (↑x : Int).toNat (arP nd.length (nd, wr, ()) (↑x : Int).toNat) x_2).snd.fst) ∧ True) ∧ True ∧ n = n ∧ True)) ∧ ((!decide ((↑x : Int) = (↑x_1 : Int))) = false → inK IntKind.i64 ((↑x_1 : Int) + (1 : Int)) ∧ ∃ (x_2 : Nat), (x_2 ≤ nd.length ∧ True) ∧ nd.length - x_2 < nd.length - x_1 ∧ (True ∧ n = n ∧ (↑x : Int) = (↑x : Int) ∧ (↑x_1 : Int) + (1 : Int) = (↑x_2 : Int) ∧ True) ∧ ((True ∧ True ∧ True) ∧ ((74 : Nat) = (74 : Nat) ∧ (arQ (↑x : Int).toNat (arP nd.length (nd, wr, ()) (↑x : Int).toNat) x_1).fst = (arQ (↑x : Int).toNat (arP nd.length (nd, wr, ()) (↑x : Int).toNat) x_2).fst) ∧ ((3 : Nat) = (3 : Nat) ∧ (arQ (↑x : Int).toNat (arP nd.length (nd, wr, ()) (↑x : Int).toNat) x_1).snd.fst = (arQ (↑x : Int).toNat (arP nd.length (nd, wr, ()) (↑x : Int).toNat) x_2).snd.fst) ∧ True) ∧ True ∧ n = n ∧ True)) ∧ (decide ((↑x_1 : Int) < n) = false → inK IntKind.i64 ((↑x : Int) + (1 : Int)) ∧ ∃ (x_2 : Nat), (x_2 ≤ nd.length ∧ True) ∧ nd.length - x_2 < nd.length - x ∧ (True ∧ n = n ∧ (↑x : Int) + (1 : Int) = (↑x_2 : Int) ∧ True) ∧ ((True ∧ True ∧ True) ∧ ((74 : Nat) = (74 : Nat) ∧ (arQ (↑x : Int).toNat (arP nd.length (nd, wr, ()) (↑x : Int).toNat) x_1).fst = (arP nd.length (nd, wr, ()) x_2).fst) ∧ ((3 : Nat) = (3 : Nat) ∧ (arQ (↑x : Int).toNat (arP nd.length (nd, wr, ()) (↑x : Int).toNat) x_1).snd.fst = (arP nd.length (nd, wr, ()) x_2).snd.fst) ∧ True) ∧ True ∧ n = n ∧ True)) ∧ (decide ((↑x : Int) < n) = false → k (SV.d Ty.bool true) [Ob.st (77 : Nat) [SV.os (1 : Nat), SV.os (2 : Nat)], Ob.row (74 : Nat) (Ty.ar (4 : Nat) (tV).sl) (arP nd.length (nd, wr, ()) x).fst, Ob.row (3 : Nat) (I) (arP nd.length (nd, wr, ()) x).snd.fst])) := by kernel_rfl
theorem vcReadO (nd : List (List (List Va))) (wr : List Int) (p q : Int) (k : SV → List Ob → Prop) : vcO ⟨Eg, [(39, cCloneI), (40, cIs)], [], [], []⟩ (anReadO (nd, wr, ()) p q) (Try.f24.body.getD .skip) Try.f24.ntmps [(.tmp 6, .un)] [.ps 0, .d I p, .d I q] [.st 77 [.os 1, .os 2], .row 74 tRow nd, .row 3 I wr] k = (
  ((!inNet (nd, wr, ()) p q) = true → k SV.nils [Ob.st (77 : Nat) [SV.os (1 : Nat), SV.os (2 : Nat)], Ob.row (74 : Nat) (Ty.ar (4 : Nat) (tV).sl) nd, Ob.row (3 : Nat) (I) wr]) ∧ ((!inNet (nd, wr, ()) p q) = false → (0 : Int) ≤ p ∧ p < (↑nd.length : Int) ∧ (0 : Int) ≤ q ∧ q < (↑(4 : Nat) : Int) ∧ (∃ (x : Nat), (x ≤ (valsAt (nd, wr, ()) p q).length ∧ inNet (nd, wr, ()) p q = true) ∧ (True ∧ True ∧ (nd.getD p.toNat (List.replicate (4 : Nat) [])).getD q.toNat [] = (nd.getD p.toNat (List.replicate (4 : Nat) [])).getD q.toNat [] ∧ (↑((nd.getD p.toNat (List.replicate (4 : Nat) [])).getD q.toNat []).length : Int) = (↑((nd.getD p.toNat (List.replicate (4 : Nat) [])).getD q.toNat []).length : Int) ∧ (0 : Int) = (↑x : Int) ∧ True) ∧ ((True ∧ True ∧ True) ∧ ((74 : Nat) = (74 : Nat) ∧ nd = nd) ∧ ((3 : Nat) = (3 : Nat) ∧ wr = wr) ∧ ((52 : Nat) = (52 : Nat) ∧ [] = List.take x (valsAt (nd, wr, ()) p q)) ∧ True) ∧ True ∧ p = p ∧ q = q ∧ True) ∧ ∀ (x : Nat), x ≤ (valsAt (nd, wr, ()) p q).length ∧ inNet (nd, wr, ()) p q = true → (decide ((↑x : Int) < (↑((nd.getD p.toNat (List.replicate (4 : Nat) [])).getD q.toNat []).length : Int)) = true → (0 : Int) ≤ (↑x : Int) ∧ (↑x : Int) < (↑((nd.getD p.toNat (List.replicate (4 : Nat) [])).getD q.toNat []).length : Int) ∧ ((List.length (((nd.getD p.toNat (List.replicate (4 : Nat) [])).getD q.toNat []).getD (↑x : Int).toNat va0).fst ≤ (1000000000 : Nat) ∧ True) ∧ True) ∧ (List.take x (valsAt (nd, wr, ()) p q)).length + ((List.replicate (1 : Nat) va0).set (0 : Nat) ((((nd.getD p.toNat (List.replicate (4 : Nat) [])).getD q.toNat []).getD (↑x : Int).toNat va0).fst, (((nd.getD p.toNat (List.replicate (4 : Nat) [])).getD q.toNat []).getD (↑x : Int).toNat va0).snd.fst, ())).length ≤ (1000000000 : Nat) ∧ inK IntKind.i64 ((↑x : Int) + (1 : Int)) ∧ ∃ (x_1 : Nat), (x_1 ≤ (valsAt (nd, wr, ()) p q).length ∧ inNet (nd, wr, ()) p q = true) ∧ (valsAt (nd, wr, ()) p q).length - x_1 < (valsAt (nd, wr, ()) p q).length - x ∧ (True ∧ True ∧ (nd.getD p.toNat (List.replicate (4 : Nat) [])).getD q.toNat [] = (nd.getD p.toNat (List.replicate (4 : Nat) [])).getD q.toNat [] ∧ (↑((nd.getD p.toNat (List.replicate (4 : Nat) [])).getD q.toNat []).length : Int) = (↑((nd.getD p.toNat (List.replicate (4 : Nat) [])).getD q.toNat []).length : Int) ∧ (↑x : Int) + (1 : Int) = (↑x_1 : Int) ∧ True) ∧ ((True ∧ True ∧ True) ∧ ((74 : Nat) = (74 : Nat) ∧ nd = nd) ∧ ((3 : Nat) = (3 : Nat) ∧ wr = wr) ∧ ((52 : Nat) = (52 : Nat) ∧ (List.take x (valsAt (nd, wr, ()) p q)).append ((List.replicate (1 : Nat) va0).set (0 : Nat) ((((nd.getD p.toNat (List.replicate (4 : Nat) [])).getD q.toNat []).getD (↑x : Int).toNat va0).fst, (((nd.getD p.toNat (List.replicate (4 : Nat) [])).getD q.toNat []).getD (↑x : Int).toNat va0).snd.fst, ())) = List.take x_1 (valsAt (nd, wr, ()) p q)) ∧ True) ∧ True ∧ p = p ∧ q = q ∧ True) ∧ (decide ((↑x : Int) < (↑((nd.getD p.toNat (List.replicate (4 : Nat) [])).getD q.toNat []).length : Int)) = false → k (SV.os (1 : Nat)) [Ob.st (77 : Nat) [SV.os (2 : Nat), SV.os (3 : Nat)], Ob.row (52 : Nat) (tV) (List.take x (valsAt (nd, wr, ()) p q)), Ob.row (74 : Nat) (Ty.ar (4 : Nat) (tV).sl) nd, Ob.row (3 : Nat) (I) wr]))) := by kernel_rfl
end Go.Proofs.Ytgcliogognkdkaa

/- Nets: for the fact's condition alone: what is written and told is not looked into. -/
namespace Go.Proofs.Ytgcliogognkdkaa
open Go.Vc
def oNewG (nF : Nat → Net) : OCtr := fun args ob k => match args, ob with
  | [.d (.int .i64) n], [] => (inB n 1 5 = false → k (.tp [.nilp, .d tErr (1 : Int)]) []) ∧ (inB n 1 5 = true → k (.tp [.ps 0, .d tErr (0 : Int)]) (obNet (nF (n : Int).toNat)))
  | _, _ => False
def oWriteG (wT : Net → Int → Int → Int → Net) (wE : Net → Int → Int → Int → Int) : OCtr := fun args ob k => match args, ob with
  | [.ps 0, .d (.int .i64) p, .d (.int .i64) q, .d (.int .i64) v], [.st 77 [.os 1, .os 2], .row 74 (.ar 4 (.sl (.pr (.sl (.int .i64)) (.pr (.int .i64) .un)))) nodes, .row 3 (.int .i64) wrote] =>
    NetSh (nodes, wrote, ()) ∧ k (.d tErr (wE (nodes, wrote, ()) p q v)) (obNet (wT (nodes, wrote, ()) p q v))
  | _, _ => False
def oSyncG (sT : Net → Int → Int → Net) (sE : Net → Int → Int → Int) : OCtr := fun args ob k => match args, ob with
  | [.ps 0, .d (.int .i64) a, .d (.int .i64) b], [.st 77 [.os 1, .os 2], .row 74 (.ar 4 (.sl (.pr (.sl (.int .i64)) (.pr (.int .i64) .un)))) nodes, .row 3 (.int .i64) wrote] =>
    NetSh (nodes, wrote, ()) ∧ k (.d tErr (sE (nodes, wrote, ()) a b)) (obNet (sT (nodes, wrote, ()) a b))
  | _, _ => False
def oReadG (rF : Net → Int → Int → List Va) : OCtr := fun args ob k => match args, ob with
  | [.ps 0, .d (.int .i64) p, .d (.int .i64) q], [.st 77 [.os 1, .os 2], .row 74 (.ar 4 (.sl (.pr (.sl (.int .i64)) (.pr (.int .i64) .un)))) nodes, .row 3 (.int .i64) wrote] =>
    NetLen (nodes, wrote, ()) ∧ k (.os 1) [.st 77 [.os 2, .os 3], .row 52 tV (rF (nodes, wrote, ()) p q), .row 74 tRow nodes, .row 3 I wrote]
  | _, _ => False
end Go.Proofs.Ytgcliogognkdkaa

/- What the functions of this seat have to satisfy, by program: each verification condition in plain words. -/
namespace Go.Proofs.Ytgcliogognkdkaa
open Go.Vc
set_option linter.unusedVariables false
theorem vcFactG (rF : Net → Int → Int → List Va) (sT : Net → Int → Int → Net) (sE : Net → Int → Int → Int) (wT : Net → Int → Int → Int → Net) (wE : Net → Int → Int → Int → Int) (nF : Nat → Net) (k : List Dat → Prop) : vcF ⟨Eg, [], [], [], [(24, oReadG rF), (26, oSyncG sT sE), (28, oWriteG wT wE), (29, oNewG nF)]⟩ [joinAll] (Try.f22.body.getD .skip) Try.f22.ntmps [(.tmp 0, .bool)] [] k = (
  (inB (2 : Int) (1 : Int) (5 : Int) = false → ((!decide ((1 : Int) = (0 : Int))) = true → k [Dat.mk Ty.bool false]) ∧ ((!decide ((1 : Int) = (0 : Int))) = false → False)) ∧ (inB (2 : Int) (1 : Int) (5 : Int) = true → ((!decide ((0 : Int) = (0 : Int))) = true → k [Dat.mk Ty.bool false]) ∧ ((!decide ((0 : Int) = (0 : Int))) = false → NetSh ((nF (Int.toNat (2 : Int))).fst, (nF (Int.toNat (2 : Int))).snd.fst, ()) ∧ NetSh ((wT ((nF (Int.toNat (2 : Int))).fst, (nF (Int.toNat (2 : Int))).snd.fst, ()) (0 : Int) (1 : Int) (5 : Int)).fst, (wT ((nF (Int.toNat (2 : Int))).fst, (nF (Int.toNat (2 : Int))).snd.fst, ()) (0 : Int) (1 : Int) (5 : Int)).snd.fst, ()) ∧ NetSh ((wT ((wT ((nF (Int.toNat (2 : Int))).fst, (nF (Int.toNat (2 : Int))).snd.fst, ()) (0 : Int) (1 : Int) (5 : Int)).fst, (wT ((nF (Int.toNat (2 : Int))).fst, (nF (Int.toNat (2 : Int))).snd.fst, ()) (0 : Int) (1 : Int) (5 : Int)).snd.fst, ()) (1 : Int) (1 : Int) (6 : Int)).fst, (wT ((wT ((nF (Int.toNat (2 : Int))).fst, (nF (Int.toNat (2 : Int))).snd.fst, ()) (0 : Int) (1 : Int) (5 : Int)).fst, (wT ((nF (Int.toNat (2 : Int))).fst, (nF (Int.toNat (2 : Int))).snd.fst, ()) (0 : Int) (1 : Int) (5 : Int)).snd.fst, ()) (1 : Int) (1 : Int) (6 : Int)).snd.fst, ()) ∧ NetLen ((sT ((wT ((wT ((nF (Int.toNat (2 : Int))).fst, (nF (Int.toNat (2 : Int))).snd.fst, ()) (0 : Int) (1 : Int) (5 : Int)).fst, (wT ((nF (Int.toNat (2 : Int))).fst, (nF (Int.toNat (2 : Int))).snd.fst, ()) (0 : Int) (1 : Int) (5 : Int)).snd.fst, ()) (1 : Int) (1 : Int) (6 : Int)).fst, (wT ((wT ((nF (Int.toNat (2 : Int))).fst, (nF (Int.toNat (2 : Int))).snd.fst, ()) (0 : Int) (1 : Int) (5 : Int)).fst, (wT ((nF (Int.toNat (2 : Int))).fst, (nF (Int.toNat (2 : Int))).snd.fst, ()) (0 : Int) (1 : Int) (5 : Int)).snd.fst, ()) (1 : Int) (1 : Int) (6 : Int)).snd.fst, ()) (0 : Int) (1 : Int)).fst, (sT ((wT ((wT ((nF (Int.toNat (2 : Int))).fst, (nF (Int.toNat (2 : Int))).snd.fst, ()) (0 : Int) (1 : Int) (5 : Int)).fst, (wT ((nF (Int.toNat (2 : Int))).fst, (nF (Int.toNat (2 : Int))).snd.fst, ()) (0 : Int) (1 : Int) (5 : Int)).snd.fst, ()) (1 : Int) (1 : Int) (6 : Int)).fst, (wT ((wT ((nF (Int.toNat (2 : Int))).fst, (nF (Int.toNat (2 : Int))).snd.fst, ()) (0 : Int) (1 : Int) (5 : Int)).fst, (wT ((nF (Int.toNat (2 : Int))).fst, (nF (Int.toNat (2 : Int))).snd.fst, ()) (0 : Int) (1 : Int) (5 : Int)).snd.fst, ()) (1 : Int) (1 : Int) (6 : Int)).snd.fst, ()) (0 : Int) (1 : Int)).snd.fst, ()) ∧ (decide (wE ((nF (Int.toNat (2 : Int))).fst, (nF (Int.toNat (2 : Int))).snd.fst, ()) (0 : Int) (1 : Int) (5 : Int) = (0 : Int)) = true → (decide (wE ((wT ((nF (Int.toNat (2 : Int))).fst, (nF (Int.toNat (2 : Int))).snd.fst, ()) (0 : Int) (1 : Int) (5 : Int)).fst, (wT ((nF (Int.toNat (2 : Int))).fst, (nF (Int.toNat (2 : Int))).snd.fst, ()) (0 : Int) (1 : Int) (5 : Int)).snd.fst, ()) (1 : Int) (1 : Int) (6 : Int) = (0 : Int)) = true → (decide (sE ((wT ((wT ((nF (Int.toNat (2 : Int))).fst, (nF (Int.toNat (2 : Int))).snd.fst, ()) (0 : Int) (1 : Int) (5 : Int)).fst, (wT ((nF (Int.toNat (2 : Int))).fst, (nF (Int.toNat (2 : Int))).snd.fst, ()) (0 : Int) (1 : Int) (5 : Int)).snd.fst, ()) (1 : Int) (1 : Int) (6 : Int)).fst, (wT ((wT ((nF (Int.toNat (2 : Int))).fst, (nF (Int.toNat (2 : Int))).snd.fst, ()) (0 : Int) (1 : Int) (5 : Int)).fst, (wT ((nF (Int.toNat (2 : Int))).fst, (nF (Int.toNat (2 : Int))).snd.fst, ()) (0 : Int) (1 : Int) (5 : Int)).snd.fst, ()) (1 : Int) (1 : Int) (6 : Int)).snd.fst, ()) (0 : Int) (1 : Int) = (0 : Int)) = true → (decide ((↑(rF ((sT ((wT ((wT ((nF (Int.toNat (2 : Int))).fst, (nF (Int.toNat (2 : Int))).snd.fst, ()) (0 : Int) (1 : Int) (5 : Int)).fst, (wT ((nF (Int.toNat (2 : Int))).fst, (nF (Int.toNat (2 : Int))).snd.fst, ()) (0 : Int) (1 : Int) (5 : Int)).snd.fst, ()) (1 : Int) (1 : Int) (6 : Int)).fst, (wT ((wT ((nF (Int.toNat (2 : Int))).fst, (nF (Int.toNat (2 : Int))).snd.fst, ()) (0 : Int) (1 : Int) (5 : Int)).fst, (wT ((nF (Int.toNat (2 : Int))).fst, (nF (Int.toNat (2 : Int))).snd.fst, ()) (0 : Int) (1 : Int) (5 : Int)).snd.fst, ()) (1 : Int) (1 : Int) (6 : Int)).snd.fst, ()) (0 : Int) (1 : Int)).fst, (sT ((wT ((wT ((nF (Int.toNat (2 : Int))).fst, (nF (Int.toNat (2 : Int))).snd.fst, ()) (0 : Int) (1 : Int) (5 : Int)).fst, (wT ((nF (Int.toNat (2 : Int))).fst, (nF (Int.toNat (2 : Int))).snd.fst, ()) (0 : Int) (1 : Int) (5 : Int)).snd.fst, ()) (1 : Int) (1 : Int) (6 : Int)).fst, (wT ((wT ((nF (Int.toNat (2 : Int))).fst, (nF (Int.toNat (2 : Int))).snd.fst, ()) (0 : Int) (1 : Int) (5 : Int)).fst, (wT ((nF (Int.toNat (2 : Int))).fst, (nF (Int.toNat (2 : Int))).snd.fst, ()) (0 : Int) (1 : Int) (5 : Int)).snd.fst, ()) (1 : Int) (1 : Int) (6 : Int)).snd.fst, ()) (0 : Int) (1 : Int)).snd.fst, ()) (1 : Int) (1 : Int)).length : Int) = (2 : Int)) = true → (0 : Int) ≤ (0 : Int) ∧ (0 : Int) < (↑(rF ((sT ((wT ((wT ((nF (Int.toNat (2 : Int))).fst, (nF (Int.toNat (2 : Int))).snd.fst, ()) (0 : Int) (1 : Int) (5 : Int)).fst, (wT ((nF (Int.toNat (2 : Int))).fst, (nF (Int.toNat (2 : Int))).snd.fst, ()) (0 : Int) (1 : Int) (5 : Int)).snd.fst, ()) (1 : Int) (1 : Int) (6 : Int)).fst, (wT ((wT ((nF (Int.toNat (2 : Int))).fst, (nF (Int.toNat (2 : Int))).snd.fst, ()) (0 : Int) (1 : Int) (5 : Int)).fst, (wT ((nF (Int.toNat (2 : Int))).fst, (nF (Int.toNat (2 : Int))).snd.fst, ()) (0 : Int) (1 : Int) (5 : Int)).snd.fst, ()) (1 : Int) (1 : Int) (6 : Int)).snd.fst, ()) (0 : Int) (1 : Int)).fst, (sT ((wT ((wT ((nF (Int.toNat (2 : Int))).fst, (nF (Int.toNat (2 : Int))).snd.fst, ()) (0 : Int) (1 : Int) (5 : Int)).fst, (wT ((nF (Int.toNat (2 : Int))).fst, (nF (Int.toNat (2 : Int))).snd.fst, ()) (0 : Int) (1 : Int) (5 : Int)).snd.fst, ()) (1 : Int) (1 : Int) (6 : Int)).fst, (wT ((wT ((nF (Int.toNat (2 : Int))).fst, (nF (Int.toNat (2 : Int))).snd.fst, ()) (0 : Int) (1 : Int) (5 : Int)).fst, (wT ((nF (Int.toNat (2 : Int))).fst, (nF (Int.toNat (2 : Int))).snd.fst, ()) (0 : Int) (1 : Int) (5 : Int)).snd.fst, ()) (1 : Int) (1 : Int) (6 : Int)).snd.fst, ()) (0 : Int) (1 : Int)).snd.fst, ()) (1 : Int) (1 : Int)).length : Int) ∧ (decide (((rF ((sT ((wT ((wT ((nF (Int.toNat (2 : Int))).fst, (nF (Int.toNat (2 : Int))).snd.fst, ()) (0 : Int) (1 : Int) (5 : Int)).fst, (wT ((nF (Int.toNat (2 : Int))).fst, (nF (Int.toNat (2 : Int))).snd.fst, ()) (0 : Int) (1 : Int) (5 : Int)).snd.fst, ()) (1 : Int) (1 : Int) (6 : Int)).fst, (wT ((wT ((nF (Int.toNat (2 : Int))).fst, (nF (Int.toNat (2 : Int))).snd.fst, ()) (0 : Int) (1 : Int) (5 : Int)).fst, (wT ((nF (Int.toNat (2 : Int))).fst, (nF (Int.toNat (2 : Int))).snd.fst, ()) (0 : Int) (1 : Int) (5 : Int)).snd.fst, ()) (1 : Int) (1 : Int) (6 : Int)).snd.fst, ()) (0 : Int) (1 : Int)).fst, (sT ((wT ((wT ((nF (Int.toNat (2 : Int))).fst, (nF (Int.toNat (2 : Int))).snd.fst, ()) (0 : Int) (1 : Int) (5 : Int)).fst, (wT ((nF (Int.toNat (2 : Int))).fst, (nF (Int.toNat (2 : Int))).snd.fst, ()) (0 : Int) (1 : Int) (5 : Int)).snd.fst, ()) (1 : Int) (1 : Int) (6 : Int)).fst, (wT ((wT ((nF (Int.toNat (2 : Int))).fst, (nF (Int.toNat (2 : Int))).snd.fst, ()) (0 : Int) (1 : Int) (5 : Int)).fst, (wT ((nF (Int.toNat (2 : Int))).fst, (nF (Int.toNat (2 : Int))).snd.fst, ()) (0 : Int) (1 : Int) (5 : Int)).snd.fst, ()) (1 : Int) (1 : Int) (6 : Int)).snd.fst, ()) (0 : Int) (1 : Int)).snd.fst, ()) (1 : Int) (1 : Int)).getD (0 : Nat) va0).snd.fst = (6 : Int)) = true → (0 : Int) ≤ (1 : Int) ∧ (1 : Int) < (↑(rF ((sT ((wT ((wT ((nF (Int.toNat (2 : Int))).fst, (nF (Int.toNat (2 : Int))).snd.fst, ()) (0 : Int) (1 : Int) (5 : Int)).fst, (wT ((nF (Int.toNat (2 : Int))).fst, (nF (Int.toNat (2 : Int))).snd.fst, ()) (0 : Int) (1 : Int) (5 : Int)).snd.fst, ()) (1 : Int) (1 : Int) (6 : Int)).fst, (wT ((wT ((nF (Int.toNat (2 : Int))).fst, (nF (Int.toNat (2 : Int))).snd.fst, ()) (0 : Int) (1 : Int) (5 : Int)).fst, (wT ((nF (Int.toNat (2 : Int))).fst, (nF (Int.toNat (2 : Int))).snd.fst, ()) (0 : Int) (1 : Int) (5 : Int)).snd.fst, ()) (1 : Int) (1 : Int) (6 : Int)).snd.fst, ()) (0 : Int) (1 : Int)).fst, (sT ((wT ((wT ((nF (Int.toNat (2 : Int))).fst, (nF (Int.toNat (2 : Int))).snd.fst, ()) (0 : Int) (1 : Int) (5 : Int)).fst, (wT ((nF (Int.toNat (2 : Int))).fst, (nF (Int.toNat (2 : Int))).snd.fst, ()) (0 : Int) (1 : Int) (5 : Int)).snd.fst, ()) (1 : Int) (1 : Int) (6 : Int)).fst, (wT ((wT ((nF (Int.toNat (2 : Int))).fst, (nF (Int.toNat (2 : Int))).snd.fst, ()) (0 : Int) (1 : Int) (5 : Int)).fst, (wT ((nF (Int.toNat (2 : Int))).fst, (nF (Int.toNat (2 : Int))).snd.fst, ()) (0 : Int) (1 : Int) (5 : Int)).snd.fst, ()) (1 : Int) (1 : Int) (6 : Int)).snd.fst, ()) (0 : Int) (1 : Int)).snd.fst, ()) (1 : Int) (1 : Int)).length : Int) ∧ (decide (((rF ((sT ((wT ((wT ((nF (Int.toNat (2 : Int))).fst, (nF (Int.toNat (2 : Int))).snd.fst, ()) (0 : Int) (1 : Int) (5 : Int)).fst, (wT ((nF (Int.toNat (2 : Int))).fst, (nF (Int.toNat (2 : Int))).snd.fst, ()) (0 : Int) (1 : Int) (5 : Int)).snd.fst, ()) (1 : Int) (1 : Int) (6 : Int)).fst, (wT ((wT ((nF (Int.toNat (2 : Int))).fst, (nF (Int.toNat (2 : Int))).snd.fst, ()) (0 : Int) (1 : Int) (5 : Int)).fst, (wT ((nF (Int.toNat (2 : Int))).fst, (nF (Int.toNat (2 : Int))).snd.fst, ()) (0 : Int) (1 : Int) (5 : Int)).snd.fst, ()) (1 : Int) (1 : Int) (6 : Int)).snd.fst, ()) (0 : Int) (1 : Int)).fst, (sT ((wT ((wT ((nF (Int.toNat (2 : Int))).fst, (nF (Int.toNat (2 : Int))).snd.fst, ()) (0 : Int) (1 : Int) (5 : Int)).fst, (wT ((nF (Int.toNat (2 : Int))).fst, (nF (Int.toNat (2 : Int))).snd.fst, ()) (0 : Int) (1 : Int) (5 : Int)).snd.fst, ()) (1 : Int) (1 : Int) (6 : Int)).fst, (wT ((wT ((nF (Int.toNat (2 : Int))).fst, (nF (Int.toNat (2 : Int))).snd.fst, ()) (0 : Int) (1 : Int) (5 : Int)).fst, (wT ((nF (Int.toNat (2 : Int))).fst, (nF (Int.toNat (2 : Int))).snd.fst, ()) (0 : Int) (1 : Int) (5 : Int)).snd.fst, ()) (1 : Int) (1 : Int) (6 : Int)).snd.fst, ()) (0 : Int) (1 : Int)).snd.fst, ()) (1 : Int) (1 : Int)).getD (1 : Nat) va0).snd.fst = (5 : Int)) = true → NetLen ((sT ((wT ((wT ((nF (Int.toNat (2 : Int))).fst, (nF (Int.toNat (2 : Int))).snd.fst, ()) (0 : Int) (1 : Int) (5 : Int)).fst, (wT ((nF (Int.toNat (2 : Int))).fst, (nF (Int.toNat (2 : Int))).snd.fst, ()) (0 : Int) (1 : Int) (5 : Int)).snd.fst, ()) (1 : Int) (1 : Int) (6 : Int)).fst, (wT ((wT ((nF (Int.toNat (2 : Int))).fst, (nF (Int.toNat (2 : Int))).snd.fst, ()) (0 : Int) (1 : Int) (5 : Int)).fst, (wT ((nF (Int.toNat (2 : Int))).fst, (nF (Int.toNat (2 : Int))).snd.fst, ()) (0 : Int) (1 : Int) (5 : Int)).snd.fst, ()) (1 : Int) (1 : Int) (6 : Int)).snd.fst, ()) (0 : Int) (1 : Int)).fst, (sT ((wT ((wT ((nF (Int.toNat (2 : Int))).fst, (nF (Int.toNat (2 : Int))).snd.fst, ()) (0 : Int) (1 : Int) (5 : Int)).fst, (wT ((nF (Int.toNat (2 : Int))).fst, (nF (Int.toNat (2 : Int))).snd.fst, ()) (0 : Int) (1 : Int) (5 : Int)).snd.fst, ()) (1 : Int) (1 : Int) (6 : Int)).fst, (wT ((wT ((nF (Int.toNat (2 : Int))).fst, (nF (Int.toNat (2 : Int))).snd.fst, ()) (0 : Int) (1 : Int) (5 : Int)).fst, (wT ((nF (Int.toNat (2 : Int))).fst, (nF (Int.toNat (2 : Int))).snd.fst, ()) (0 : Int) (1 : Int) (5 : Int)).snd.fst, ()) (1 : Int) (1 : Int) (6 : Int)).snd.fst, ()) (0 : Int) (1 : Int)).snd.fst, ()) ∧ k [Dat.mk Ty.bool (decide ((↑(rF ((sT ((wT ((wT ((nF (Int.toNat (2 : Int))).fst, (nF (Int.toNat (2 : Int))).snd.fst, ()) (0 : Int) (1 : Int) (5 : Int)).fst, (wT ((nF (Int.toNat (2 : Int))).fst, (nF (Int.toNat (2 : Int))).snd.fst, ()) (0 : Int) (1 : Int) (5 : Int)).snd.fst, ()) (1 : Int) (1 : Int) (6 : Int)).fst, (wT ((wT ((nF (Int.toNat (2 : Int))).fst, (nF (Int.toNat (2 : Int))).snd.fst, ()) (0 : Int) (1 : Int) (5 : Int)).fst, (wT ((nF (Int.toNat (2 : Int))).fst, (nF (Int.toNat (2 : Int))).snd.fst, ()) (0 : Int) (1 : Int) (5 : Int)).snd.fst, ()) (1 : Int) (1 : Int) (6 : Int)).snd.fst, ()) (0 : Int) (1 : Int)).fst, (sT ((wT ((wT ((nF (Int.toNat (2 : Int))).fst, (nF (Int.toNat (2 : Int))).snd.fst, ()) (0 : Int) (1 : Int) (5 : Int)).fst, (wT ((nF (Int.toNat (2 : Int))).fst, (nF (Int.toNat (2 : Int))).snd.fst, ()) (0 : Int) (1 : Int) (5 : Int)).snd.fst, ()) (1 : Int) (1 : Int) (6 : Int)).fst, (wT ((wT ((nF (Int.toNat (2 : Int))).fst, (nF (Int.toNat (2 : Int))).snd.fst, ()) (0 : Int) (1 : Int) (5 : Int)).fst, (wT ((nF (Int.toNat (2 : Int))).fst, (nF (Int.toNat (2 : Int))).snd.fst, ()) (0 : Int) (1 : Int) (5 : Int)).snd.fst, ()) (1 : Int) (1 : Int) (6 : Int)).snd.fst, ()) (0 : Int) (1 : Int)).snd.fst, ()) (0 : Int) (1 : Int)).length : Int) = (1 : Int)))]) ∧ (decide (((rF ((sT ((wT ((wT ((nF (Int.toNat (2 : Int))).fst, (nF (Int.toNat (2 : Int))).snd.fst, ()) (0 : Int) (1 : Int) (5 : Int)).fst, (wT ((nF (Int.toNat (2 : Int))).fst, (nF (Int.toNat (2 : Int))).snd.fst, ()) (0 : Int) (1 : Int) (5 : Int)).snd.fst, ()) (1 : Int) (1 : Int) (6 : Int)).fst, (wT ((wT ((nF (Int.toNat (2 : Int))).fst, (nF (Int.toNat (2 : Int))).snd.fst, ()) (0 : Int) (1 : Int) (5 : Int)).fst, (wT ((nF (Int.toNat (2 : Int))).fst, (nF (Int.toNat (2 : Int))).snd.fst, ()) (0 : Int) (1 : Int) (5 : Int)).snd.fst, ()) (1 : Int) (1 : Int) (6 : Int)).snd.fst, ()) (0 : Int) (1 : Int)).fst, (sT ((wT ((wT ((nF (Int.toNat (2 : Int))).fst, (nF (Int.toNat (2 : Int))).snd.fst, ()) (0 : Int) (1 : Int) (5 : Int)).fst, (wT ((nF (Int.toNat (2 : Int))).fst, (nF (Int.toNat (2 : Int))).snd.fst, ()) (0 : Int) (1 : Int) (5 : Int)).snd.fst, ()) (1 : Int) (1 : Int) (6 : Int)).fst, (wT ((wT ((nF (Int.toNat (2 : Int))).fst, (nF (Int.toNat (2 : Int))).snd.fst, ()) (0 : Int) (1 : Int) (5 : Int)).fst, (wT ((nF (Int.toNat (2 : Int))).fst, (nF (Int.toNat (2 : Int))).snd.fst, ()) (0 : Int) (1 : Int) (5 : Int)).snd.fst, ()) (1 : Int) (1 : Int) (6 : Int)).snd.fst, ()) (0 : Int) (1 : Int)).snd.fst, ()) (1 : Int) (1 : Int)).getD (1 : Nat) va0).snd.fst = (5 : Int)) = false → k [Dat.mk Ty.bool false])) ∧ (decide (((rF ((sT ((wT ((wT ((nF (Int.toNat (2 : Int))).fst, (nF (Int.toNat (2 : Int))).snd.fst, ()) (0 : Int) (1 : Int) (5 : Int)).fst, (wT ((nF (Int.toNat (2 : Int))).fst, (nF (Int.toNat (2 : Int))).snd.fst, ()) (0 : Int) (1 : Int) (5 : Int)).snd.fst, ()) (1 : Int) (1 : Int) (6 : Int)).fst, (wT ((wT ((nF (Int.toNat (2 : Int))).fst, (nF (Int.toNat (2 : Int))).snd.fst, ()) (0 : Int) (1 : Int) (5 : Int)).fst, (wT ((nF (Int.toNat (2 : Int))).fst, (nF (Int.toNat (2 : Int))).snd.fst, ()) (0 : Int) (1 : Int) (5 : Int)).snd.fst, ()) (1 : Int) (1 : Int) (6 : Int)).snd.fst, ()) (0 : Int) (1 : Int)).fst, (sT ((wT ((wT ((nF (Int.toNat (2 : Int))).fst, (nF (Int.toNat (2 : Int))).snd.fst, ()) (0 : Int) (1 : Int) (5 : Int)).fst, (wT ((nF (Int.toNat (2 : Int))).fst, (nF (Int.toNat (2 : Int))).snd.fst, ()) (0 : Int) (1 : Int) (5 : Int)).snd.fst, ()) (1 : Int) (1 : Int) (6 : Int)).fst, (wT ((wT ((nF (Int.toNat (2 : Int))).fst, (nF (Int.toNat (2 : Int))).snd.fst, ()) (0 : Int) (1 : Int) (5 : Int)).fst, (wT ((nF (Int.toNat (2 : Int))).fst, (nF (Int.toNat (2 : Int))).snd.fst, ()) (0 : Int) (1 : Int) (5 : Int)).snd.fst, ()) (1 : Int) (1 : Int) (6 : Int)).snd.fst, ()) (0 : Int) (1 : Int)).snd.fst, ()) (1 : Int) (1 : Int)).getD (0 : Nat) va0).snd.fst = (6 : Int)) = false → k [Dat.mk Ty.bool false])) ∧ (decide ((↑(rF ((sT ((wT ((wT ((nF (Int.toNat (2 : Int))).fst, (nF (Int.toNat (2 : Int))).snd.fst, ()) (0 : Int) (1 : Int) (5 : Int)).fst, (wT ((nF (Int.toNat (2 : Int))).fst, (nF (Int.toNat (2 : Int))).snd.fst, ()) (0 : Int) (1 : Int) (5 : Int)).snd.fst, ()) (1 : Int) (1 : Int) (6 : Int)).fst, (wT ((wT ((nF (Int.toNat (2 : Int))).fst, (nF (Int.toNat (2 : Int))).snd.fst, ()) (0 : Int) (1 : Int) (5 : Int)).fst, (wT ((nF (Int.toNat (2 : Int))).fst, (nF (Int.toNat (2 : Int))).snd.fst, ()) (0 : Int) (1 : Int) (5 : Int)).snd.fst, ()) (1 : Int) (1 : Int) (6 : Int)).snd.fst, ()) (0 : Int) (1 : Int)).fst, (sT ((wT ((wT ((nF (Int.toNat (2 : Int))).fst, (nF (Int.toNat (2 : Int))).snd.fst, ()) (0 : Int) (1 : Int) (5 : Int)).fst, (wT ((nF (Int.toNat (2 : Int))).fst, (nF (Int.toNat (2 : Int))).snd.fst, ()) (0 : Int) (1 : Int) (5 : Int)).snd.fst, ()) (1 : Int) (1 : Int) (6 : Int)).fst, (wT ((wT ((nF (Int.toNat (2 : Int))).fst, (nF (Int.toNat (2 : Int))).snd.fst, ()) (0 : Int) (1 : Int) (5 : Int)).fst, (wT ((nF (Int.toNat (2 : Int))).fst, (nF (Int.toNat (2 : Int))).snd.fst, ()) (0 : Int) (1 : Int) (5 : Int)).snd.fst, ()) (1 : Int) (1 : Int) (6 : Int)).snd.fst, ()) (0 : Int) (1 : Int)).snd.fst, ()) (1 : Int) (1 : Int)).length : Int) = (2 : Int)) = false → k [Dat.mk Ty.bool false])) ∧ (decide (sE ((wT ((wT ((nF (Int.toNat (2 : Int))).fst, (nF (Int.toNat (2 : Int))).snd.fst, ()) (0 : Int) (1 : Int) (5 : Int)).fst, (wT ((nF (Int.toNat (2 : Int))).fst, (nF (Int.toNat (2 : Int))).snd.fst, ()) (0 : Int) (1 : Int) (5 : Int)).snd.fst, ()) (1 : Int) (1 : Int) (6 : Int)).fst, (wT ((wT ((nF (Int.toNat (2 : Int))).fst, (nF (Int.toNat (2 : Int))).snd.fst, ()) (0 : Int) (1 : Int) (5 : Int)).fst, (wT ((nF (Int.toNat (2 : Int))).fst, (nF (Int.toNat (2 : Int))).snd.fst, ()) (0 : Int) (1 : Int) (5 : Int)).snd.fst, ()) (1 : Int) (1 : Int) (6 : Int)).snd.fst, ()) (0 : Int) (1 : Int) = (0 : Int)) = false → k [Dat.mk Ty.bool false])) ∧ (decide (wE ((wT ((nF (Int.toNat (2 : Int))).fst, (nF (Int.toNat (2 : Int))).snd.fst, ()) (0 : Int) (1 : Int) (5 : Int)).fst, (wT ((nF (Int.toNat (2 : Int))).fst, (nF (Int.toNat (2 : Int))).snd.fst, ()) (0 : Int) (1 : Int) (5 : Int)).snd.fst, ()) (1 : Int) (1 : Int) (6 : Int) = (0 : Int)) = false → k [Dat.mk Ty.bool false])) ∧ (decide (wE ((nF (Int.toNat (2 : Int))).fst, (nF (Int.toNat (2 : Int))).snd.fst, ()) (0 : Int) (1 : Int) (5 : Int) = (0 : Int)) = false → k [Dat.mk Ty.bool false])))) := by kernel_rfl
end Go.Proofs.Ytgcliogognkdkaa

/- Nets: reading, playing and telling around keep their contracts. -/
namespace Go.Vc
open Go.RowKit
/-- A nil slice that comes back may be seen as a row without elements, whatever was handed in; the objects are named by s. -/
theorem own_nilrowK [Dn] {P : Program} {gl : List (Nat × Dat)} {f : FuncId} {oc oc' : OCtr} (h : OwnOk P gl f oc) (e : TypeId) (t : Ty) (σ : List Nat) (hσ : σ.Nodup)
    (h' : ∀ args ob k, oc' args ob k → (∀ i, i < keptN args → σ.getD i 0 = i) ∧ oc args ob (fun s ob' => match s with
      | .nils => keptN args ≤ ob'.length ∧ k (reS σ (.os ob'.length)) (σ.map fun i => reO σ ((ob' ++ [Ob.row e t []]).getD i .dead))
      | s => k s ob')) : OwnOk P gl f oc' := by
  intro args ob k hc w M R0 A vals hB hrd I
  obtain ⟨hs, hc⟩ := h' _ _ _ hc
  refine (h _ _ _ hc w M R0 A vals hB hrd I).mono ?_
  rintro x w' ⟨v, s, ob1, A', rfl, hk, I2, hkeep⟩
  split at hk
  · obtain ⟨hkn, hk⟩ := hk
    have hv : v = .slice none 0 0 := I2.tm 0 .nils rfl
    subst hv
    have hnum : A'.n = ob1.length := I2.num
    have hI := (I2.add none (fun _ => .slice none 0 0) (fun b => (Value.slice none 0 0).ownBlock = some b) (nilOb e (.d t)) (Same.refl w') (fun _ _ _ => rfl) (fun b hb => by simp [Value.ownBlock] at hb) (fun hro =>
          nilOb_ok e (.d t) (Asg.push_η ..) (Asg.push_κ ..))).put (d := some 0) (s := .os ob1.length) (v := .slice none 0 0) ⟨by simp [Asg.pushT, hnum], by rw [← hnum, Asg.push_η]⟩
    refine ⟨.slice none 0 0, _, _, _, rfl, hk, hI.re hσ, fun i hi => ?_⟩
    rw [← hkeep i hi]
    simp only [Asg.re]
    rw [hs i hi]
    simp only [Asg.pushT]
    rw [if_neg (by omega)]
  · exact ⟨v, _, _, A', rfl, hk, I2, hkeep⟩
end Go.Vc
namespace Go.Proofs.Ytgcliogognkdkaa
open Go.Vc Go.Proofs

theorem readO_vc (nd : List (List (List Va))) (wr : List Int) (p q : Int) (hN : NetLen (nd, wr, ())) (k : SV → List Ob → Prop)
    (h1 : inNet (nd, wr, ()) p q = false → k .nils [.st 77 [.os 1, .os 2], .row 74 tRow nd, .row 3 I wr])
    (h2 : inNet (nd, wr, ()) p q = true → k (.os 1) [.st 77 [.os 2, .os 3], .row 52 tV (valsAt (nd, wr, ()) p q), .row 74 tRow nd, .row 3 I wr]) :
    vcO ⟨Eg, [(39, cCloneI), (40, cIs)], [], [], []⟩ (anReadO (nd, wr, ()) p q) (Try.f24.body.getD .skip) Try.f24.ntmps [(.tmp 6, .un)] [.ps 0, .d I p, .d I q] [.st 77 [.os 1, .os 2], .row 74 tRow nd, .row 3 I wr] k := by
  rw [vcReadO]
  have e0 : (List.getD nd p.toNat (List.replicate 4 [])).getD q.toNat [] = valsAt (nd, wr, ()) p q := rfl
  have e1 : ∀ y : Va, (List.replicate 1 va0).set 0 y = [y] := fun _ => rfl
  have ea : ∀ (m n : List Va), List.append m n = m ++ n := fun _ _ => rfl
  have e2 : ∀ y : Va, (y.1, y.2.1, ()) = y := fun _ => rfl
  simp only [e0, e1, ea, e2, decide_eq_true_eq, decide_eq_false_iff_not, true_and, and_true, Bool.not_eq_true', Bool.not_eq_false', Int.toNat_natCast, inK_i64]
  refine ⟨h1, fun h => ?_⟩
  have hin := inNet_iff.1 h
  have hin1 : p < (nd.length : Int) := hin.1.2
  have hr : (List.getD nd p.toNat (List.replicate 4 [])) ∈ nd := getD_memL (by omega)
  obtain ⟨hr4, hrl⟩ := hN.1 _ hr
  have hv : valsAt (nd, wr, ()) p q ∈ (List.getD nd p.toNat (List.replicate 4 [])) := getD_memL (by rw [hr4]; omega)
  obtain ⟨hl1, hl2⟩ := hrl _ hv
  refine ⟨hin.1.1, hin1, hin.2.1, by omega, ⟨0, ⟨Nat.zero_le _, h⟩, rfl, rfl⟩, fun x ⟨hx, _⟩ => ⟨fun hlt => ?_, fun hge => ?_⟩⟩
  · have hxl : x < (valsAt (nd, wr, ()) p q).length := by omega
    have := hl2 _ (getD_memL (d := va0) hxl)
    refine ⟨by omega, hlt, by omega, ?_, by omega, x + 1, ⟨by omega, h⟩, by omega, by omega, ?_⟩
    · rw [List.length_take]; simp only [List.length_cons, List.length_nil]; omega
    · rw [List.take_succ_eq_append_getElem hxl, List.getD_eq_getElem?_getD, List.getElem?_eq_getElem hxl]; rfl
  · have : x = (valsAt (nd, wr, ()) p q).length := by omega
    rw [this, List.take_length]; exact h2 h
theorem ownRead : OwnOk Try.prog [] 24 oRead := by
  refine own_nilrowK (oc := fun args ob k => ∃ (p q : Int) (nd : List (List (List Va))) (wr : List Int), args = [.ps 0, .d I p, .d I q] ∧ ob = [.st 77 [.os 1, .os 2], .row 74 tRow nd, .row 3 I wr] ∧ NetLen (nd, wr, ()) ∧
      (inNet (nd, wr, ()) p q = false → k .nils [.st 77 [.os 1, .os 2], .row 74 tRow nd, .row 3 I wr]) ∧
      (inNet (nd, wr, ()) p q = true → k (.os 1) [.st 77 [.os 2, .os 3], .row 52 tV (valsAt (nd, wr, ()) p q), .row 74 tRow nd, .row 3 I wr])) ?_ 52 tV [0, 3, 1, 2] (by decide) ?_
  · refine own_of (CxOk.mk' Eg_ok (by kernel_rfl) mixed (gl := []) (GOk.cons okCloneI Try.func39 (by kernel_rfl) (by kernel_rfl) (GOk.cons okIs Try.func40 (by kernel_rfl) (by kernel_rfl) GOk.nil)) GoOk.nil noIt) Try.func24 (c := Try.f24.body.getD .skip) (rvs := [(.tmp 6, .un)]) (by kernel_rfl) (by kernel_rfl) (by kernel_rfl) ?_
    rintro args ob k ⟨p, q, nd, wr, rfl, rfl, hN, h1, h2⟩ hwa hwo
    exact ⟨anReadO (nd, wr, ()) p q, readO_vc nd wr p q hN k h1 h2⟩
  · intro args ob k h
    unfold oRead at h
    split at h
    · rename_i p q nd wr
      obtain ⟨hN, hk⟩ := h
      refine ⟨fun i hi => ?_, p, q, nd, wr, rfl, rfl, hN, fun hb => ⟨show 1 ≤ 3 from by decide, ?_⟩, fun hb => ?_⟩
      · have : i < 1 := hi
        have : i = 0 := by omega
        subst this; rfl
      · unfold readF at hk; rw [if_neg (by rw [hb]; decide)] at hk; exact hk
      · unfold readF at hk; rw [if_pos hb] at hk; exact hk
    · exact h.elim

/-! The closed fact. -/
theorem net_eta (t : Net) : (t.1, t.2.1, ()) = t := rfl
theorem fact_vc (rF : Net → Int → Int → List Va) (sT : Net → Int → Int → Net) (sE : Net → Int → Int → Int) (wT : Net → Int → Int → Int → Net) (wE : Net → Int → Int → Int → Int) (nF : Nat → Net) (t0 t1 t2 t3 : Net)
    (h0 : nF 2 = t0) (h1 : wT t0 0 1 5 = t1) (h2 : wT t1 1 1 6 = t2) (h3 : sT t2 0 1 = t3) (s0 : NetSh t0) (s1 : NetSh t1) (s2 : NetSh t2) (s3 : NetLen t3) (w0 : wE t0 0 1 5 = 0) (w1 : wE t1 1 1 6 = 0) (y : sE t2 0 1 = 0)
    (l : (rF t3 1 1).length = 2) (l0 : ((rF t3 1 1).getD 0 va0).2.1 = 6) (l1 : ((rF t3 1 1).getD 1 va0).2.1 = 5) (l2 : (rF t3 0 1).length = 1) (k : List Dat → Prop) (hk : k [⟨.bool, true⟩]) :
    vcF ⟨Eg, [], [], [], [(24, oReadG rF), (26, oSyncG sT sE), (28, oWriteG wT wE), (29, oNewG nF)]⟩ [joinAll] (Try.f22.body.getD .skip) Try.f22.ntmps [(.tmp 0, .bool)] [] k := by
  rw [vcFactG]
  have t2' : Int.toNat 2 = 2 := rfl
  have hb : inB 2 1 5 = true := by decide
  have i0 : Int.toNat 0 = 0 := rfl
  have i1 : Int.toNat 1 = 1 := rfl
  have c2 : decide (((2 : Nat) : Int) = 2) = true := rfl
  have c1 : decide (((1 : Nat) : Int) = 1) = true := rfl
  simp only [t2', i0, i1, c1, c2, net_eta, h0, h1, h2, h3, w0, w1, y, l, l0, l1, l2, hb, s0, s1, s2, s3, decide_true, Bool.not_true, Bool.true_eq_false, Bool.false_eq_true, false_implies, forall_const, true_and, and_true]
  refine ⟨by omega, by omega, by omega, by omega, hk⟩
theorem netF0 : ∃ H, NInv 2 (fun _ _ => True) H (newF 2) := ⟨_, NInv.init _ (by decide) (by decide)⟩
theorem netF1 : ∃ H, NInv 2 (fun _ _ => True) H (writeT (newF 2) 0 1 5) := netF0.elim fun _ I => I.write _ _ _ fun _ => trivial
theorem netF2 : ∃ H, NInv 2 (fun _ _ => True) H (writeT (writeT (newF 2) 0 1 5) 1 1 6) := netF1.elim fun _ I => I.write _ _ _ fun _ => trivial
theorem netF3 : ∃ H, NInv 2 (fun _ _ => True) H (syncT (writeT (writeT (newF 2) 0 1 5) 1 1 6) 0 1) := netF2.elim fun H I => ⟨H, I.sync _ _⟩
theorem okFactG : PlainOk Try.prog [] 22 cFactG := by
  refine plain_of (CxOk.mk' Eg_ok (by kernel_rfl) mixed (gl := []) GOk.nil (GoOk.cons (c := oReadG readF) ownRead Try.func24 (by kernel_rfl) (by kernel_rfl) (GoOk.cons (c := oSyncG syncT syncE) ownSync Try.func26 (by kernel_rfl) (by kernel_rfl) (GoOk.cons (c := oWriteG writeT writeE) ownWrite Try.func28 (by kernel_rfl) (by kernel_rfl) (GoOk.cons (c := oNewG newF) ownNew Try.func29 (by kernel_rfl) (by kernel_rfl) GoOk.nil)))) noIt) Try.func22 (c := Try.f22.body.getD .skip) (rvs := [(.tmp 0, .bool)]) (by kernel_rfl) (by kernel_rfl) (by kernel_rfl) ?_
  intro ds k ⟨hp, hk⟩ hwf
  obtain ⟨H0, I0⟩ := netF0
  obtain ⟨H1, I1⟩ := netF1
  obtain ⟨H2, I2⟩ := netF2
  obtain ⟨H3, I3⟩ := netF3
  obtain ⟨rfl, -⟩ := dest0 hp
  exact ⟨[joinAll], fact_vc readF syncT syncE writeT writeE newF _ _ _ _ rfl rfl rfl rfl I0.sh I1.sh I2.sh I3.nlen (by kernel_rfl) (by kernel_rfl) (by kernel_rfl) (by kernel_rfl) (by kernel_rfl) (by kernel_rfl) (by kernel_rfl) k hk⟩

/-! What is played. -/
/-- it was written in the steps -/
def WS (steps : List (List Int)) (k : Nat) (v : Int) : Prop := ∃ s, s < steps.length ∧ s < 60 ∧ (steps.getD s []).length = 3 ∧ (steps.getD s []).getD 1 0 = (k : Int) ∧ (steps.getD s []).getD 2 0 = v
theorem writeE_in {t : Net} {p q v : Int} (h : writeE t p q v = 0) : inNet t p q = true := by
  unfold writeE at h
  split at h
  · rename_i hb; rw [Bool.and_eq_true] at hb; exact hb.1
  · cases h
theorem play_inv {n : Nat} (h1 : 1 ≤ n) (h5 : n ≤ 5) (steps : List (List Int)) : ∀ i, i ≤ steps.length → i ≤ 60 → ∃ H, NInv n (WS steps) H (playF n steps i)
  | 0, _, _ => ⟨_, NInv.init _ h1 h5⟩
  | i + 1, hi, h60 => by
    obtain ⟨H, I⟩ := play_inv h1 h5 steps i (by omega) (by omega)
    show ∃ H, NInv n (WS steps) H (stepT (playF n steps i) (steps.getD i []))
    unfold stepT
    split
    · rename_i h3
      refine I.write _ _ _ fun hw => ⟨i, by omega, by omega, h3, ?_, rfl⟩
      have := (inNet_iff.1 (writeE_in hw)).2.1
      omega
    · split
      · exact ⟨H, I.sync _ _⟩
      · exact ⟨H, I⟩
theorem inB5 {n : Int} (h : inB n 1 5 = true) : 1 ≤ n.toNat ∧ n.toNat ≤ 5 ∧ 1 ≤ n ∧ n ≤ 5 := by
  unfold inB at h
  simp only [Bool.and_eq_true, decide_eq_true_eq] at h; omega
theorem playN_inv {n : Int} (h : inB n 1 5 = true) (steps : List (List Int)) {m : Nat} (hm : m ≤ 60) : ∃ H, NInv n.toNat (WS steps) H (playN n steps m) :=
  play_inv (inB5 h).1 (inB5 h).2.1 steps _ (Nat.min_le_left ..) (Nat.le_trans (Nat.min_le_right ..) hm)
theorem step3 {t : Net} {l : List Int} (h : l.length = 3) : stepT t l = writeT t (l.getD 0 0) (l.getD 1 0) (l.getD 2 0) := by unfold stepT; rw [if_pos h]
theorem step2 {t : Net} {l : List Int} (h : l.length = 2) : stepT t l = syncT t (l.getD 0 0) (l.getD 1 0) := by unfold stepT; rw [if_neg (by omega), if_pos h]
theorem step0 {t : Net} {l : List Int} (h3 : ¬ l.length = 3) (h2 : ¬ l.length = 2) : stepT t l = t := by unfold stepT; rw [if_neg h3, if_neg h2]
theorem play_succ (n : Nat) (s : List (List Int)) (i : Nat) : playF n s (i + 1) = stepT (playF n s i) (s.getD i []) := rfl
theorem played_vc (n : Int) (s : List (List Int)) (hml : s.length ≤ maxLen) (k : SV → List Ob → Prop) (h1 : inB n 1 5 = false → k (.tp [.nilp, .d .bool false]) [])
    (h2 : inB n 1 5 = true → k (.tp [.ps 0, .d .bool true]) (obNet (playN n s 60))) :
    vcO ⟨Eg, [], [], [], [(26, oSync), (28, oWrite), (29, oNew)]⟩ (anPlayed n s) (Try.f23.body.getD .skip) Try.f23.ntmps [(.tmp 4, .un), (.tmp 5, .bool)] [.d I n, .d (.sl (.sl I)) s] [] k := by
  rw [vcPlayed]
  have hmx : maxLen ≤ 9223372036854775807 := by decide
  have i0 : Int.toNat 0 = 0 := rfl
  have i1 : Int.toNat 1 = 1 := rfl
  have i2 : Int.toNat 2 = 2 := rfl
  simp only [i0, i1, i2, net_eta, decide_eq_true_eq, decide_eq_false_iff_not, Int.toNat_natCast, inK_i64, true_and, and_true, decide_true, decide_false, Bool.not_true, Bool.not_false, Bool.true_eq_false, Bool.false_eq_true, false_implies, forall_const, and_false, false_and]
  refine ⟨fun hb => ⟨fun _ => h1 hb, fun h => absurd h (by decide)⟩, fun hb => ⟨⟨0, ⟨⟨Nat.zero_le _, Nat.zero_le _⟩, hb⟩, rfl, rfl, rfl⟩, fun x ⟨⟨hx, hx60⟩, _⟩ => ?_⟩⟩
  have hfin : x = min s.length 60 → k (.tp [.ps 0, .d .bool true]) [.st 77 [.os 1, .os 2], .row 74 tRow (playF n.toNat s x).1, .row 3 I (playF n.toNat s x).2.1] := fun e => by
    rw [e]; exact h2 hb
  obtain ⟨H, I⟩ := play_inv (inB5 hb).1 (inB5 hb).2.1 s x hx hx60
  refine ⟨fun hlt => ⟨fun hlt60 => ⟨by omega, hlt, fun l3 => ⟨⟨by omega, by omega, by omega, by omega, by omega, by omega⟩, I.sh, fun l2 => absurd l3 (by omega), fun _ => ?_⟩, fun l3 => ⟨fun l2 => ⟨⟨by omega, by omega, by omega, by omega⟩, I.sh, ?_⟩, fun l2 => ?_⟩⟩, fun hge => hfin (by omega)⟩, fun hge => hfin (by omega)⟩
  · have e := step3 (t := playF n.toNat s x) (l := s.getD x []) (by omega)
    rw [← play_succ] at e
    exact ⟨by omega, x + 1, ⟨⟨by omega, by omega⟩, hb⟩, by omega, by omega, by rw [e], by rw [e]⟩
  · have e := step2 (t := playF n.toNat s x) (l := s.getD x []) (by omega)
    rw [← play_succ] at e
    exact ⟨by omega, x + 1, ⟨⟨by omega, by omega⟩, hb⟩, by omega, by omega, by rw [e], by rw [e]⟩
  · have e := step0 (t := playF n.toNat s x) (l := s.getD x []) (by omega) (by omega)
    rw [← play_succ] at e
    exact ⟨by omega, x + 1, ⟨⟨by omega, by omega⟩, hb⟩, by omega, by omega, by rw [e], by rw [e]⟩
theorem ownPlayed : OwnOk Try.prog [] 23 oPlayed := by
  refine own_of (CxOk.mk' Eg_ok (by kernel_rfl) mixed (gl := []) GOk.nil (GoOk.cons ownSync Try.func26 (by kernel_rfl) (by kernel_rfl) (GoOk.cons ownWrite Try.func28 (by kernel_rfl) (by kernel_rfl) (GoOk.cons ownNew Try.func29 (by kernel_rfl) (by kernel_rfl) GoOk.nil))) noIt) Try.func23 (c := Try.f23.body.getD .skip) (rvs := [(.tmp 4, .un), (.tmp 5, .bool)]) (by kernel_rfl) (by kernel_rfl) (by kernel_rfl) ?_
  intro args ob k h hwa hwo
  unfold oPlayed at h
  split at h
  · rename_i n s
    have hs : List.length s ≤ maxLen := (hwa (.d (.sl (.sl I)) s) (by simp)).1
    exact ⟨anPlayed n s, played_vc n s hs k h.1 h.2⟩
  · exact h.elim

/-! All tell all. -/
section
variable {n : Nat} {W : Nat → Int → Prop} {H : Nat → Nat → Va → Prop} {t : Net}
theorem NInv.arQ (I : NInv n W H t) (p : Nat) : ∀ q, NInv n W H (arQ p t q)
  | 0 => I
  | q + 1 => by
    unfold Ytgcliogognkdkaa.arQ
    split
    · exact (I.arQ p q).sync _ _
    · exact I.arQ p q
theorem NInv.arP (I : NInv n W H t) (m : Nat) : ∀ p, NInv n W H (arP m t p)
  | 0 => I
  | p + 1 => (I.arP m p).arQ p m
theorem NInv.arF (I : NInv n W H t) : NInv n W H (arF t) := I.arP _ _
theorem NInv.dnP (I : NInv n W H t) (m : Nat) : ∀ p, NInv n W H (dnP m t p)
  | 0 => I
  | p + 1 => (I.dnP m p).arQ _ m
theorem syncE0 (I : NInv n W H t) {a b : Nat} (ha : a < n) (hb : b < n) (hab : ¬ (a : Int) = (b : Int)) : syncE t (a : Int) (b : Int) = 0 := by
  have h1 : inNet t (a : Int) 0 = true := inNet_iff.2 (by rw [I.len]; omega)
  have h2 : inNet t (b : Int) 0 = true := inNet_iff.2 (by rw [I.len]; omega)
  unfold syncE; rw [h1, h2, Bool.and_true, if_pos rfl, if_neg hab]
end
theorem arQ_succ (p : Nat) (t : Net) (q : Nat) : arQ p t (q + 1) = if ¬ (p : Int) = (q : Int) then syncT (arQ p t q) (p : Int) (q : Int) else arQ p t q := rfl
theorem around_vc (nd : List (List (List Va))) (wr : List Int) (n : Int) (hI : NOk (nd, wr, ())) (hn : n = (nd.length : Int)) (k : SV → List Ob → Prop) (hk : k (.d .bool true) (obNet (arF (nd, wr, ())))) :
    vcO ⟨Eg, [], [], [], [(26, oSync)]⟩ (anAround (nd, wr, ())) (Try.f25.body.getD .skip) Try.f25.ntmps [(.tmp 4, .bool)] [.ps 0, .d I n] [.st 77 [.os 1, .os 2], .row 74 tRow nd, .row 3 I wr] k := by
  rw [vcAround]
  obtain ⟨W, H, I⟩ := hI
  replace I : NInv nd.length W H (nd, wr, ()) := I
  have h5 := I.hi
  simp only [net_eta, decide_eq_true_eq, decide_eq_false_iff_not, Int.toNat_natCast, inK_i64, true_and, and_true, Bool.not_eq_true', Bool.not_eq_false']
  refine ⟨⟨0, Nat.zero_le _, rfl, rfl, rfl⟩, fun x hx => ⟨fun hlt => ⟨⟨0, Nat.zero_le _, rfl, rfl, rfl⟩, fun y hy => ⟨fun hly => ?_, fun hgy => ?_⟩⟩, fun hge => ?_⟩⟩
  · have Ia := (I.arP nd.length x).arQ x y
    refine ⟨fun hne => ⟨Ia.sh, fun he => absurd (syncE0 Ia (by omega) (by omega) hne) he, fun he => ⟨by omega, y + 1, by omega, by omega, by omega, ?_⟩⟩, fun he => ⟨by omega, y + 1, by omega, by omega, by omega, ?_⟩⟩
    · rw [arQ_succ, if_pos hne]; exact ⟨rfl, rfl⟩
    · rw [arQ_succ, if_neg (by omega)]; exact ⟨rfl, rfl⟩
  · have : y = nd.length := by omega
    subst this
    exact ⟨by omega, x + 1, by omega, by omega, by omega, rfl, rfl⟩
  · have : x = nd.length := by omega
    subst this
    exact hk
theorem ownAround : OwnOk Try.prog [] 25 oAround := by
  refine own_of (CxOk.mk' Eg_ok (by kernel_rfl) mixed (gl := []) GOk.nil (GoOk.cons ownSync Try.func26 (by kernel_rfl) (by kernel_rfl) GoOk.nil) noIt) Try.func25 (c := Try.f25.body.getD .skip) (rvs := [(.tmp 4, .bool)]) (by kernel_rfl) (by kernel_rfl) (by kernel_rfl) ?_
  intro args ob k h hwa hwo
  unfold oAround at h
  split at h
  · rename_i n nd wr
    exact ⟨anAround (nd, wr, ()), around_vc nd wr n h.1.1 h.1.2 k h.2⟩
  · exact h.elim
end Go.Proofs.Ytgcliogognkdkaa

/- Nets: when all told all, all have the same. -/
namespace Go.Proofs.Ytgcliogognkdkaa
open Go.Vc
section
variable {n : Nat} {W : Nat → Int → Prop} {H : Nat → Nat → Va → Prop} {t : Net}
theorem NInv.nil4 (I : NInv n W H t) {i k : Nat} (hk : 4 ≤ k) : vAt t i k = [] := by
  have hl : (t.1.getD i (List.replicate 4 [])).length = 4 := by
    rcases getD_memD (l := t.1) (i := i) (d := List.replicate 4 ([] : List Va)) with h | ⟨h, -⟩
    · exact I.row _ h
    · rw [h]; rfl
  rcases getD_memD (l := t.1.getD i (List.replicate 4 [])) (i := k) (d := ([] : List Va)) with h | ⟨h, -⟩
  · unfold vAt
    rw [List.getD_eq_getElem?_getD, List.getElem?_eq_none (by omega)]; rfl
  · exact h
theorem NInv.syncAt (I : NInv n W H t) {a b : Int} (h0 : syncE t a b = 0) (i k : Nat) : vAt (syncT t a b) i k = if i = b.toNat ∧ k < 4 then mrgV (vAt t b.toNat k ++ vAt t a.toNat k) else vAt t i k := by
  obtain ⟨ha, hb, hab⟩ : inNet t a 0 = true ∧ inNet t b 0 = true ∧ a ≠ b := by
    unfold syncE at h0
    cases ha : inNet t a 0 <;> cases hb : inNet t b 0 <;> simp [ha, hb] at h0
    exact ⟨rfl, rfl, h0⟩
  obtain ⟨⟨a0, a1⟩, -⟩ := inNet_iff.1 ha
  obtain ⟨⟨b0, b1⟩, -⟩ := inNet_iff.1 hb
  unfold syncT; rw [if_pos h0]
  exact vAt_sync I.row (by omega) (by omega) i k 4 (Nat.le_refl _)
theorem NInv.allF (I : NInv n W H t) (a b k : Nat) : (∀ v ∈ vAt t b k ++ vAt t a k, v.1.length = n) ∧ ∀ v ∈ vAt t b k ++ vAt t a k, ∀ w ∈ vAt t b k ++ vAt t a k, v.1 = w.1 → v = w := by
  have hm : ∀ v ∈ vAt t b k ++ vAt t a k, ∃ p, H k p v := fun v h => (List.mem_append.1 h).elim (fun h => I.mem _ _ _ h) fun h => I.mem _ _ _ h
  refine ⟨fun v h => (hm v h).elim fun p hp => I.hl _ _ _ hp, fun v h w h' e => ?_⟩
  obtain ⟨p, hp⟩ := hm v h
  obtain ⟨p', hp'⟩ := hm w h'
  exact I.hf k p v p' w hp hp' e
/-- what is told is known, or is below what is known -/
theorem NInv.told (I : NInv n W H t) {a b : Int} (h0 : syncE t a b = 0) {k : Nat} {v : Va} (hv : v ∈ vAt t b.toNat k ++ vAt t a.toNat k) : ∃ w ∈ vAt (syncT t a b) b.toNat k, sawB w v = true := by
  rw [I.syncAt h0]
  by_cases hk : k < 4
  · rw [if_pos ⟨rfl, hk⟩]
    exact dom_mrg (I.allF _ _ _).1 (I.allF _ _ _).2 hv
  · rw [I.nil4 (by omega), I.nil4 (by omega)] at hv; cases hv
theorem NInv.mono (I : NInv n W H t) (a b : Int) {i k : Nat} {v : Va} (hv : v ∈ vAt t i k) : ∃ w ∈ vAt (syncT t a b) i k, sawB w v = true := by
  by_cases h0 : syncE t a b = 0
  · by_cases hi : i = b.toNat
    · subst hi; exact I.told h0 (List.mem_append_left _ hv)
    · rw [I.syncAt h0, if_neg fun h => hi h.1]; exact ⟨v, hv, saw_refl v⟩
  · unfold syncT; rw [if_neg h0]; exact ⟨v, hv, saw_refl v⟩
theorem NInv.from (I : NInv n W H t) (a b : Int) {i k : Nat} {v : Va} (hv : v ∈ vAt (syncT t a b) i k) : ∃ j, v ∈ vAt t j k := by
  by_cases h0 : syncE t a b = 0
  · rw [I.syncAt h0] at hv
    split at hv
    · have := ((mem_mrgV (I.allF _ _ _).1 (I.allF _ _ _).2).1 hv).1
      exact (List.mem_append.1 this).elim (fun h => ⟨_, h⟩) fun h => ⟨_, h⟩
    · exact ⟨i, hv⟩
  · unfold syncT at hv; rw [if_neg h0] at hv; exact ⟨i, hv⟩
theorem NInv.out (I : NInv n W H t) {i k : Nat} {v : Va} (hv : v ∈ vAt t i k) (hi : n ≤ i) : False := by
  have : t.1.getD i (List.replicate 4 []) = List.replicate 4 [] := by
    rw [List.getD_eq_getElem?_getD, List.getElem?_eq_none (by rw [I.len]; exact hi)]; rfl
  unfold vAt at hv
  rw [this] at hv
  rcases getD_memD (l := (List.replicate 4 [] : List (List Va))) (i := k) (d := ([] : List Va)) with h2 | ⟨h2, -⟩
  · rw [(List.mem_replicate.1 h2).2] at hv; cases hv
  · rw [h2] at hv; cases hv

/-- all that the node j had the node i knows of -/
def Dm (t0 t : Net) (i j : Nat) : Prop := ∀ k v, v ∈ vAt t0 j k → ∃ w ∈ vAt t i k, sawB w v = true
/-- nothing comes from nowhere -/
def Sb (t0 t : Net) : Prop := ∀ i k v, v ∈ vAt t i k → ∃ j, v ∈ vAt t0 j k
variable {t0 : Net}
theorem Dm.refl (i : Nat) : Dm t t i i := fun _ v hv => ⟨v, hv, saw_refl v⟩
theorem Sb.refl : Sb t t := fun i _ _ hv => ⟨i, hv⟩
theorem Dm.sync (I : NInv n W H t) {i j : Nat} (h : Dm t0 t i j) (a b : Int) : Dm t0 (syncT t a b) i j := fun k v hv => by
  obtain ⟨w, hw, hs⟩ := h k v hv
  obtain ⟨u, hu, hus⟩ := I.mono a b hw
  exact ⟨u, hu, saw_trans (by rw [(I.sync a b).ln hu, I.ln hw]; exact Nat.le_refl _) hus hs⟩
theorem Dm.told (I : NInv n W H t) {a b : Int} {j : Nat} (h0 : syncE t a b = 0) (h : Dm t0 t a.toNat j) : Dm t0 (syncT t a b) b.toNat j := fun k v hv => by
  obtain ⟨w, hw, hs⟩ := h k v hv
  obtain ⟨u, hu, hus⟩ := I.told h0 (List.mem_append_right _ hw)
  exact ⟨u, hu, saw_trans (by rw [(I.sync a b).ln hu, I.ln hw]; exact Nat.le_refl _) hus hs⟩
theorem Sb.sync (I : NInv n W H t) (h : Sb t0 t) (a b : Int) : Sb t0 (syncT t a b) := fun _ k _ hv => by
  obtain ⟨j, hj⟩ := I.from a b hv
  exact h j k _ hj
theorem Dm.q1 (I : NInv n W H t) {i j : Nat} (h : Dm t0 t i j) (p : Nat) : ∀ q, Dm t0 (arQ p t q) i j
  | 0 => h
  | q + 1 => by
    rw [arQ_succ]
    split
    · exact Dm.sync (I.arQ p q) (Dm.q1 I h p q) _ _
    · exact Dm.q1 I h p q
theorem Sb.q1 (I : NInv n W H t) (h : Sb t0 t) (p : Nat) : ∀ q, Sb t0 (arQ p t q)
  | 0 => h
  | q + 1 => by
    rw [arQ_succ]
    split
    · exact Sb.sync (I.arQ p q) (Sb.q1 I h p q) _ _
    · exact Sb.q1 I h p q
theorem Dm.tell (I : NInv n W H t) {j p : Nat} (hp : p < n) (h : Dm t0 t p j) : ∀ q, q ≤ n → ∀ q', q' < q → Dm t0 (arQ p t q) q' j
  | 0, _, q', hq' => by omega
  | q + 1, hq, q', hq' => by
    have Ia := I.arQ p q
    have hpp := Dm.q1 I h p q
    rw [arQ_succ]
    by_cases e : (p : Int) = (q : Int)
    · rw [if_neg (fun h => h e)]
      by_cases e2 : q' = q
      · have : q' = p := by omega
        subst this; exact hpp
      · exact Dm.tell I hp h q (by omega) q' (by omega)
    · rw [if_pos e]
      by_cases e2 : q' = q
      · subst e2
        have := Dm.told (t0 := t0) (a := (p : Int)) (b := (q' : Int)) (j := j) Ia (syncE0 Ia hp (by omega) e) (by rw [Int.toNat_natCast]; exact hpp)
        rwa [Int.toNat_natCast] at this
      · exact Dm.sync Ia (Dm.tell I hp h q (by omega) q' (by omega)) _ _
theorem Dm.p1 (I : NInv n W H t) {i j : Nat} (h : Dm t0 t i j) : ∀ p, Dm t0 (arP n t p) i j
  | 0 => h
  | p + 1 => Dm.q1 (I.arP n p) (Dm.p1 I h p) p n
theorem Sb.p1 (I : NInv n W H t) (h : Sb t0 t) : ∀ p, Sb t0 (arP n t p)
  | 0 => h
  | p + 1 => Sb.q1 (I.arP n p) (Sb.p1 I h p) p n
theorem Dm.d1 (I : NInv n W H t) {i j : Nat} (h : Dm t0 t i j) : ∀ p, Dm t0 (dnP n t p) i j
  | 0 => h
  | p + 1 => Dm.q1 (I.dnP n p) (Dm.d1 I h p) _ n
theorem Sb.d1 (I : NInv n W H t) (h : Sb t0 t) : ∀ p, Sb t0 (dnP n t p)
  | 0 => h
  | p + 1 => Sb.q1 (I.dnP n p) (Sb.d1 I h p) _ n
theorem Dm.toldP (I : NInv n W H t) : ∀ p, p ≤ n → ∀ p', p' < p → ∀ q, q < n → Dm t (arP n t p) q p'
  | 0, _, p', hp', _, _ => by omega
  | p + 1, hp, p', hp', q, hq => by
    show Dm t (arQ p (arP n t p) n) q p'
    by_cases e : p' = p
    · subst e
      exact Dm.tell (I.arP n p') (by omega) (Dm.p1 I (Dm.refl p') p') n (Nat.le_refl _) q hq
    · exact Dm.q1 (I.arP n p) (Dm.toldP I p (by omega) p' (by omega) q hq) p n
/-- When all told all each knows of all. -/
def Al (n : Nat) (t0 t : Net) : Prop := Sb t0 t ∧ ∀ i j, i < n → j < n → Dm t0 t i j
theorem Al.ar (I : NInv n W H t) : Al n t (arP n t n) := by
  refine ⟨Sb.p1 I Sb.refl n, fun i j hi hj => ?_⟩
  obtain ⟨m, rfl⟩ : ∃ m, n = m + 1 := ⟨n - 1, by have := I.lo; omega⟩
  show Dm t (arQ m (arP (m + 1) t m) (m + 1)) i j
  refine Dm.tell (I.arP (m + 1) m) (by omega) ?_ (m + 1) (Nat.le_refl _) i hi
  by_cases e : j = m
  · subst e; exact Dm.p1 I (Dm.refl j) j
  · exact Dm.toldP I m (by omega) j (by omega) m (by omega)
theorem Dm.toldD (I : NInv n W H t) : ∀ p, p ≤ n → ∀ p', p' < p → ∀ q, q < n → Dm t (dnP n t p) q (n - 1 - p')
  | 0, _, p', hp', _, _ => by omega
  | p + 1, hp, p', hp', q, hq => by
    show Dm t (arQ (n - 1 - p) (dnP n t p) n) q (n - 1 - p')
    by_cases e : p' = p
    · subst e
      exact Dm.tell (I.dnP n p') (by omega) (Dm.d1 I (Dm.refl _) p') n (Nat.le_refl _) q hq
    · exact Dm.q1 (I.dnP n p) (Dm.toldD I p (by omega) p' (by omega) q hq) _ n
theorem Al.dn (I : NInv n W H t) : Al n t (dnP n t n) := by
  refine ⟨Sb.d1 I Sb.refl n, fun i j hi hj => ?_⟩
  obtain ⟨m, rfl⟩ : ∃ m, n = m + 1 := ⟨n - 1, by have := I.lo; omega⟩
  show Dm t (arQ (m + 1 - 1 - m) (dnP (m + 1) t m) (m + 1)) i j
  refine Dm.tell (I.dnP (m + 1) m) (by omega) ?_ (m + 1) (Nat.le_refl _) i hi
  have e0 : m + 1 - 1 - m = 0 := by omega
  rw [e0]
  by_cases e : j = 0
  · subst e; exact Dm.d1 I (Dm.refl 0) m
  · have := Dm.toldD I m (by omega) (m - j) (by omega) 0 (by omega)
    have ej : m + 1 - 1 - (m - j) = j := by omega
    rwa [ej] at this
theorem Al.p1 (I : NInv n W H t) (h : Al n t0 t) (p : Nat) : Al n t0 (arP n t p) := ⟨Sb.p1 I h.1 p, fun i j hi hj => Dm.p1 I (h.2 i j hi hj) p⟩
theorem Al.d1 (I : NInv n W H t) (h : Al n t0 t) (p : Nat) : Al n t0 (dnP n t p) := ⟨Sb.d1 I h.1 p, fun i j hi hj => Dm.d1 I (h.2 i j hi hj) p⟩
theorem Al.half {t1 t2 : Net} (I0 : NInv n W H t0) (I1 : NInv n W H t1) (I2 : NInv n W H t2) (h1 : Al n t0 t1) (h2 : Al n t0 t2) {i i' k : Nat} (hi : i < n) (hi' : i' < n) {x : Va} (hx : x ∈ vAt t1 i k) : x ∈ vAt t2 i' k := by
  obtain ⟨j, hj⟩ := h1.1 i k x hx
  have hjn : j < n := Nat.lt_of_not_le fun h => I0.out hj h
  obtain ⟨w, hw, hs⟩ := h2.2 i' j hi' hjn k x hj
  obtain ⟨j', hj'⟩ := h2.1 i' k w hw
  have hjn' : j' < n := Nat.lt_of_not_le fun h => I0.out hj' h
  obtain ⟨u, hu, hus⟩ := h1.2 i j' hi hjn' k w hj'
  have hux := saw_trans (a := u) (b := w) (c := x) (by rw [I1.ln hu, I2.ln hw]; exact Nat.le_refl _) hus hs
  have e := I1.anti i k u x hu hx hux
  subst e
  have e1 := saw_anti (by rw [I1.ln hu, I2.ln hw]) hus hs
  obtain ⟨p, hp⟩ := I1.mem i k u hu
  obtain ⟨p', hp'⟩ := I2.mem i' k w hw
  have e2 := I1.hf k p u p' w hp hp' e1
  rw [e2]; exact hw
theorem Al.same {t1 t2 : Net} (I0 : NInv n W H t0) (I1 : NInv n W H t1) (I2 : NInv n W H t2) (h1 : Al n t0 t1) (h2 : Al n t0 t2) {i i' : Nat} (k : Nat) (hi : i < n) (hi' : i' < n) : vAt t1 i k = vAt t2 i' k :=
  SV'.ext (I1.sv i k) (I2.sv i' k) fun _ => ⟨Al.half I0 I1 I2 h1 h2 hi hi', Al.half I0 I2 I1 h2 h1 hi' hi⟩
end
end Go.Proofs.Ytgcliogognkdkaa

/- Nets: the laws. -/
namespace Go.Proofs.Ytgcliogognkdkaa
open Go.Vc
def cLawGA : Ctr := cdet [I, .sl (.sl I), I, I] (fun _ _ _ _ => True) (fun _ _ _ _ => [⟨.bool, true⟩])
def cLawGS : Ctr := cdet [I, .sl (.sl I), I] (fun _ _ _ => True) (fun _ _ _ => [⟨.bool, true⟩])
def cLawGO : Ctr := cdet [I, .sl (.sl I), I, I, I] (fun _ _ _ _ _ => True) (fun _ _ _ _ _ => [⟨.bool, true⟩])
def cLawTM : Ctr := cdet [I, .sl (.sl I), I, I, I] (fun _ _ _ _ _ => True) (fun _ _ _ _ _ => [⟨.bool, true⟩])
/-- was the value written at the key in the first steps? -/
def wrF (s : List (List Int)) (k x : Int) : Nat → Bool
  | 0 => false
  | i + 1 => wrF s k x i || (decide ((s.getD i []).length = 3) && (decide ((s.getD i []).getD 1 0 = k) && decide ((s.getD i []).getD 2 0 = x)))
def rdP (n : Int) (s : List (List Int)) (p k : Int) : List Va := readF (playN n s 60) p k
def anApart (n : Int) (s : List (List Int)) (p k : Int) : Ann := [joinAll,
  loopAt 11 Nat [] (fun st i => { St.at (St.only st [0, 1, 3]) [(12, .os 0), (13, .d I (i : Int))] with ob := [.row 52 tV (rdP n s p k)] }) (fun _ i => i ≤ (rdP n s p k).length ∧ inB n 1 5 = true) (fun i => (rdP n s p k).length - i),
  loopAt 16 Nat [] (fun st j => St.at (St.only st [0, 1, 3, 12, 13]) [(14, .d I (j : Int))]) (fun _ j => j ≤ (rdP n s p k).length ∧ inB n 1 5 = true) (fun j => (rdP n s p k).length - j),
  loopAt 21 Nat [] (fun st q => St.at (St.only st [0, 1, 3, 12, 13, 14]) [(15, .d .bool (sawF ((rdP n s p k).getD (st.i 13).toNat va0).1 ((rdP n s p k).getD (st.i 14).toNat va0).1 q)), (16, .d I (q : Int))]) (fun _ q => q ≤ n.toNat ∧ inB n 1 5 = true) (fun q => n.toNat - q),
  loopAt 28 Nat [] (fun st i => St.at (St.only st [0, 1, 3, 12, 13]) [(17, .d .bool (wrF s k ((rdP n s p k).getD (st.i 13).toNat va0).2.1 i)), (18, .d I (i : Int))]) (fun _ i => (i ≤ s.length ∧ i ≤ 60) ∧ inB n 1 5 = true) (fun i => 100 - i)]
/-- two nets of the call's own -/
def obTwo (t u : Net) : List Ob := [.st 77 [.os 1, .os 2], .row 74 tRow t.1, .row 3 I t.2.1, .st 77 [.os 4, .os 5], .row 74 tRow u.1, .row 3 I u.2.1]
def rdU (n : Nat) (t : Net) : Nat → Net
  | 0 => t
  | r + 1 => dnP n (rdU n t r) n
def ar2 (n : Int) (s : List (List Int)) : Net := arF (arF (playN n s 60))
def dnU (n : Int) (s : List (List Int)) (r : Nat) : Net := rdU n.toNat (playN n s 60) r
def anSame (n : Int) (s : List (List Int)) (k : Int) : Ann := [joinAll,
  loopAt 11 Nat [] (fun st r => { St.at (St.only st [0, 2]) [(8, .ps 0), (10, .ps 3), (12, .d I (r : Int))] with ob := obTwo (ar2 n s) (dnU n s r) }) (fun _ r => r ≤ 2 ∧ inB n 1 5 = true) (fun r => 2 - r),
  loopAt 14 Nat [] (fun st m => { St.at (St.only st [0, 2, 8, 10, 12]) [(13, .d I (n - 1 - (m : Int)))] with ob := obTwo (ar2 n s) (dnP n.toNat (dnU n s (st.i 12).toNat) m) }) (fun _ m => m ≤ n.toNat ∧ inB n 1 5 = true) (fun m => n.toNat - m),
  loopAt 17 Nat [] (fun st q => { St.at (St.only st [0, 2, 8, 10, 12, 13]) [(14, .d I (q : Int))] with ob := obTwo (ar2 n s) (arQ (st.i 13).toNat (dnP n.toNat (dnU n s (st.i 12).toNat) (n - 1 - st.i 13).toNat) q) }) (fun _ q => q ≤ n.toNat ∧ inB n 1 5 = true) (fun q => n.toNat - q),
  loopAt 23 Nat [] (fun st q => { St.at (St.only st [0, 2]) [(8, .ps 0), (10, .ps 3), (15, .os 6), (16, .d I (q : Int))] with ob := obTwo (ar2 n s) (dnU n s 2) ++ [.row 52 tV (readF (ar2 n s) 0 k)] }) (fun _ q => q ≤ n.toNat ∧ inB n 1 5 = true) (fun q => n.toNat - q)]
def ovT (n : Int) (s : List (List Int)) (p k v : Int) : Net := writeT (ar2 n s) p k v
def anOver (n : Int) (s : List (List Int)) (p k v : Int) : Ann := [joinAll,
  loopAt 15 Nat [] (fun st q => { St.at (St.only st [0, 3]) [(12, .ps 0), (14, .os 3), (15, .d I (q : Int))] with ob := obNet (arF (ovT n s p k v)) ++ [.row 52 tV (readF (ovT n s p k v) p k)] }) (fun _ q => q ≤ n.toNat ∧ inB n 1 5 = true) (fun q => n.toNat - q)]
def Egs : Env := { Eg with sa := [126] }
theorem Egs_ok : EnvOk Try.prog Egs := ⟨Eg_ok.ty, Eg_ok.err, Eg_ok.el, Eg_ok.mp⟩
def hadT (n : Int) (s : List (List Int)) (p k : Int) : List Va := readF (playN n s 50) p k
def nowT (n : Int) (s : List (List Int)) (p k v : Int) : List Va := readF (writeT (playN n s 50) p k v) p k
def anTM (n : Int) (s : List (List Int)) (p k v : Int) : Ann := [joinAll, anPlay 8 15 100 [0, 1, 2, 3, 4, 13] n s 50,
  loopAt 23 Nat [] (fun st i => { St.at (St.only st [0, 2]) [(17, .os 0), (18, .os 1), (19, .d (.sl I) (accU (hadT n s p k) n.toNat i)), (20, .d I (i : Int))] with ob := [.row 52 tV (hadT n s p k), .row 52 tV (nowT n s p k v)] }) (fun _ i => i ≤ (hadT n s p k).length ∧ (inB n 1 5 = true ∧ writeE (playN n s 50) p k v = 0)) (fun i => (hadT n s p k).length - i),
  loopAt 30 Nat [] (fun st q => { St.at (St.only st [0, 2, 19]) [(18, .os 0), (23, .d I (q : Int))] with ob := [.row 52 tV (nowT n s p k v)] }) (fun _ q => q ≤ n.toNat ∧ (inB n 1 5 = true ∧ writeE (playN n s 50) p k v = 0)) (fun q => n.toNat - q)]
end Go.Proofs.Ytgcliogognkdkaa

/- What the functions of this seat have to satisfy, by program: each verification condition in plain words. -/
namespace Go.Proofs.Ytgcliogognkdkaa
open Go.Vc
set_option linter.unusedVariables false
theorem vcLawGA (n : Int) (s : List (List Int)) (p q : Int) (k : List Dat → Prop) : vcF ⟨Eg, [(22, cFactG)], [], [], [(23, oPlayed), (24, oRead)]⟩ (anApart n s p q) (Try.f6.body.getD .skip) Try.f6.ntmps [(.tmp 8, .bool)] [⟨I, n⟩, ⟨.sl (.sl I), s⟩, ⟨I, p⟩, ⟨I, q⟩] k = (
  True ∧ ((!true) = true → k [Dat.mk Ty.bool false]) ∧ ((!true) = false → (inB n (1 : Int) (5 : Int) = false → ((!false) = true → (decide (n < (1 : Int)) = true → k [Dat.mk Ty.bool true]) ∧ (decide (n < (1 : Int)) = false → k [Dat.mk Ty.bool (decide ((5 : Int) < n))])) ∧ ((!false) = false → False)) ∧ (inB n (1 : Int) (5 : Int) = true → ((!true) = true → (decide (n < (1 : Int)) = true → k [Dat.mk Ty.bool true]) ∧ (decide (n < (1 : Int)) = false → k [Dat.mk Ty.bool (decide ((5 : Int) < n))])) ∧ ((!true) = false → NetLen ((playN n s (60 : Nat)).fst, (playN n s (60 : Nat)).snd.fst, ()) ∧ (decide (n < (↑(readF ((playN n s (60 : Nat)).fst, (playN n s (60 : Nat)).snd.fst, ()) p q).length : Int)) = true → k [Dat.mk Ty.bool false]) ∧ (decide (n < (↑(readF ((playN n s (60 : Nat)).fst, (playN n s (60 : Nat)).snd.fst, ()) p q).length : Int)) = false → (∃ (x : Nat), (x ≤ (rdP n s p q).length ∧ inB n (1 : Int) (5 : Int) = true) ∧ (n = n ∧ s = s ∧ q = q ∧ True ∧ (0 : Int) = (↑x : Int) ∧ True) ∧ (((52 : Nat) = (52 : Nat) ∧ readF ((playN n s (60 : Nat)).fst, (playN n s (60 : Nat)).snd.fst, ()) p q = rdP n s p q) ∧ True) ∧ True) ∧ ∀ (x : Nat), x ≤ (rdP n s p q).length ∧ inB n (1 : Int) (5 : Int) = true → (decide ((↑x : Int) < (↑(rdP n s p q).length : Int)) = true → (0 : Int) ≤ (↑x : Int) ∧ (↑x : Int) < (↑(rdP n s p q).length : Int) ∧ ((!decide ((↑(List.length ((rdP n s p q).getD (↑x : Int).toNat va0).fst) : Int) = n)) = true → k [Dat.mk Ty.bool false]) ∧ ((!decide ((↑(List.length ((rdP n s p q).getD (↑x : Int).toNat va0).fst) : Int) = n)) = false → (∃ (x_1 : Nat), (x_1 ≤ (rdP n s p q).length ∧ inB n (1 : Int) (5 : Int) = true) ∧ (n = n ∧ s = s ∧ q = q ∧ True ∧ (↑x : Int) = (↑x : Int) ∧ (0 : Int) = (↑x_1 : Int) ∧ True) ∧ (((52 : Nat) = (52 : Nat) ∧ rdP n s p q = rdP n s p q) ∧ True) ∧ True) ∧ ∀ (x_1 : Nat), x_1 ≤ (rdP n s p q).length ∧ inB n (1 : Int) (5 : Int) = true → (decide ((↑x_1 : Int) < (↑(rdP n s p q).length : Int)) = true → (decide ((↑x : Int) = (↑x_1 : Int)) = true → inK IntKind.i64 ((↑x_1 : Int) + (1 : Int)) ∧ ∃ (x_2 : Nat), (x_2 ≤ (rdP n s p q).length ∧ inB n (1 : Int) (5 : Int) = true) ∧ (rdP n s p q).length - x_2 < (rdP n s p q).length - x_1 ∧ (n = n ∧ s = s ∧ q = q ∧ True ∧ (↑x : Int) = (↑x : Int) ∧ (↑x_1 : Int) + (1 : Int) = (↑x_2 : Int) ∧ True) ∧ (((52 : Nat) = (52 : Nat) ∧ rdP n s p q = rdP n s p q) ∧ True) ∧ True) ∧ (decide ((↑x : Int) = (↑x_1 : Int)) = false → (0 : Int) ≤ (↑x_1 : Int) ∧ (↑x_1 : Int) < (↑(rdP n s p q).length : Int) ∧ (∃ (x_2 : Nat), (x_2 ≤ n.toNat ∧ inB n (1 : Int) (5 : Int) = true) ∧ (n = n ∧ s = s ∧ q = q ∧ True ∧ (↑x : Int) = (↑x : Int) ∧ (↑x_1 : Int) = (↑x_1 : Int) ∧ decide ((↑(List.length ((rdP n s p q).getD (↑x_1 : Int).toNat va0).fst) : Int) = n) = sawF ((rdP n s p q).getD (↑x : Int).toNat va0).fst ((rdP n s p q).getD (↑x_1 : Int).toNat va0).fst x_2 ∧ (0 : Int) = (↑x_2 : Int) ∧ True) ∧ (((52 : Nat) = (52 : Nat) ∧ rdP n s p q = rdP n s p q) ∧ True) ∧ True) ∧ ∀ (x_2 : Nat), x_2 ≤ n.toNat ∧ inB n (1 : Int) (5 : Int) = true → (decide ((↑x_2 : Int) < n) = true → (sawF ((rdP n s p q).getD (↑x : Int).toNat va0).fst ((rdP n s p q).getD (↑x_1 : Int).toNat va0).fst x_2 = true → ((0 : Int) ≤ (↑x : Int) ∧ (↑x : Int) < (↑(rdP n s p q).length : Int) ∧ (0 : Int) ≤ (↑x_2 : Int) ∧ (↑x_2 : Int) < (↑(List.length ((rdP n s p q).getD (↑x : Int).toNat va0).fst) : Int) ∧ (0 : Int) ≤ (↑x_1 : Int) ∧ (↑x_1 : Int) < (↑(rdP n s p q).length : Int) ∧ (0 : Int) ≤ (↑x_2 : Int) ∧ (↑x_2 : Int) < (↑(List.length ((rdP n s p q).getD (↑x_1 : Int).toNat va0).fst) : Int) ∧ True) ∧ inK IntKind.i64 ((↑x_2 : Int) + (1 : Int)) ∧ ∃ (x_3 : Nat), (x_3 ≤ n.toNat ∧ inB n (1 : Int) (5 : Int) = true) ∧ n.toNat - x_3 < n.toNat - x_2 ∧ (n = n ∧ s = s ∧ q = q ∧ True ∧ (↑x : Int) = (↑x : Int) ∧ (↑x_1 : Int) = (↑x_1 : Int) ∧ decide (List.getD ((rdP n s p q).getD (↑x_1 : Int).toNat va0).fst (↑x_2 : Int).toNat (0 : Int) ≤ List.getD ((rdP n s p q).getD (↑x : Int).toNat va0).fst (↑x_2 : Int).toNat (0 : Int)) = sawF ((rdP n s p q).getD (↑x : Int).toNat va0).fst ((rdP n s p q).getD (↑x_1 : Int).toNat va0).fst x_3 ∧ (↑x_2 : Int) + (1 : Int) = (↑x_3 : Int) ∧ True) ∧ (((52 : Nat) = (52 : Nat) ∧ rdP n s p q = rdP n s p q) ∧ True) ∧ True) ∧ (sawF ((rdP n s p q).getD (↑x : Int).toNat va0).fst ((rdP n s p q).getD (↑x_1 : Int).toNat va0).fst x_2 = false → (sawF ((rdP n s p q).getD (↑x : Int).toNat va0).fst ((rdP n s p q).getD (↑x_1 : Int).toNat va0).fst x_2 = true → k [Dat.mk Ty.bool false]) ∧ (sawF ((rdP n s p q).getD (↑x : Int).toNat va0).fst ((rdP n s p q).getD (↑x_1 : Int).toNat va0).fst x_2 = false → inK IntKind.i64 ((↑x_1 : Int) + (1 : Int)) ∧ ∃ (x_3 : Nat), (x_3 ≤ (rdP n s p q).length ∧ inB n (1 : Int) (5 : Int) = true) ∧ (rdP n s p q).length - x_3 < (rdP n s p q).length - x_1 ∧ (n = n ∧ s = s ∧ q = q ∧ True ∧ (↑x : Int) = (↑x : Int) ∧ (↑x_1 : Int) + (1 : Int) = (↑x_3 : Int) ∧ True) ∧ (((52 : Nat) = (52 : Nat) ∧ rdP n s p q = rdP n s p q) ∧ True) ∧ True))) ∧ (decide ((↑x_2 : Int) < n) = false → (sawF ((rdP n s p q).getD (↑x : Int).toNat va0).fst ((rdP n s p q).getD (↑x_1 : Int).toNat va0).fst x_2 = true → k [Dat.mk Ty.bool false]) ∧ (sawF ((rdP n s p q).getD (↑x : Int).toNat va0).fst ((rdP n s p q).getD (↑x_1 : Int).toNat va0).fst x_2 = false → inK IntKind.i64 ((↑x_1 : Int) + (1 : Int)) ∧ ∃ (x_3 : Nat), (x_3 ≤ (rdP n s p q).length ∧ inB n (1 : Int) (5 : Int) = true) ∧ (rdP n s p q).length - x_3 < (rdP n s p q).length - x_1 ∧ (n = n ∧ s = s ∧ q = q ∧ True ∧ (↑x : Int) = (↑x : Int) ∧ (↑x_1 : Int) + (1 : Int) = (↑x_3 : Int) ∧ True) ∧ (((52 : Nat) = (52 : Nat) ∧ rdP n s p q = rdP n s p q) ∧ True) ∧ True)))) ∧ (decide ((↑x_1 : Int) < (↑(rdP n s p q).length : Int)) = false → (∃ (x_2 : Nat), ((x_2 ≤ s.length ∧ x_2 ≤ (60 : Nat)) ∧ inB n (1 : Int) (5 : Int) = true) ∧ (n = n ∧ s = s ∧ q = q ∧ True ∧ (↑x : Int) = (↑x : Int) ∧ false = wrF s q ((rdP n s p q).getD (↑x : Int).toNat va0).snd.fst x_2 ∧ (0 : Int) = (↑x_2 : Int) ∧ True) ∧ (((52 : Nat) = (52 : Nat) ∧ rdP n s p q = rdP n s p q) ∧ True) ∧ True) ∧ ∀ (x_2 : Nat), (x_2 ≤ s.length ∧ x_2 ≤ (60 : Nat)) ∧ inB n (1 : Int) (5 : Int) = true → (decide ((↑x_2 : Int) < (↑s.length : Int)) = true → (decide ((↑x_2 : Int) < (60 : Int)) = true → ((wrF s q ((rdP n s p q).getD (↑x : Int).toNat va0).snd.fst x_2 = true → True) ∧ (wrF s q ((rdP n s p q).getD (↑x : Int).toNat va0).snd.fst x_2 = false → (0 : Int) ≤ (↑x_2 : Int) ∧ (↑x_2 : Int) < (↑s.length : Int) ∧ (decide ((↑(s.getD (↑x_2 : Int).toNat []).length : Int) = (3 : Int)) = true → (0 : Int) ≤ (↑x_2 : Int) ∧ (↑x_2 : Int) < (↑s.length : Int) ∧ (0 : Int) ≤ (1 : Int) ∧ (1 : Int) < (↑(s.getD (↑x_2 : Int).toNat []).length : Int) ∧ (decide ((s.getD (↑x_2 : Int).toNat []).getD (Int.toNat (1 : Int)) (0 : Int) = q) = true → (0 : Int) ≤ (↑x_2 : Int) ∧ (↑x_2 : Int) < (↑s.length : Int) ∧ (0 : Int) ≤ (2 : Int) ∧ (2 : Int) < (↑(s.getD (↑x_2 : Int).toNat []).length : Int) ∧ (0 : Int) ≤ (↑x : Int) ∧ (↑x : Int) < (↑(rdP n s p q).length : Int) ∧ True) ∧ (decide ((s.getD (↑x_2 : Int).toNat []).getD (Int.toNat (1 : Int)) (0 : Int) = q) = false → True)) ∧ (decide ((↑(s.getD (↑x_2 : Int).toNat []).length : Int) = (3 : Int)) = false → True))) ∧ inK IntKind.i64 ((↑x_2 : Int) + (1 : Int)) ∧ ∃ (x_3 : Nat), ((x_3 ≤ s.length ∧ x_3 ≤ (60 : Nat)) ∧ inB n (1 : Int) (5 : Int) = true) ∧ (100 : Nat) - x_3 < (100 : Nat) - x_2 ∧ (n = n ∧ s = s ∧ q = q ∧ True ∧ (↑x : Int) = (↑x : Int) ∧ (wrF s q ((rdP n s p q).getD (↑x : Int).toNat va0).snd.fst x_2 || decide ((↑(s.getD (↑x_2 : Int).toNat []).length : Int) = (3 : Int)) && (decide ((s.getD (↑x_2 : Int).toNat []).getD (Int.toNat (1 : Int)) (0 : Int) = q) && decide ((s.getD (↑x_2 : Int).toNat []).getD (Int.toNat (2 : Int)) (0 : Int) = ((rdP n s p q).getD (↑x : Int).toNat va0).snd.fst))) = wrF s q ((rdP n s p q).getD (↑x : Int).toNat va0).snd.fst x_3 ∧ (↑x_2 : Int) + (1 : Int) = (↑x_3 : Int) ∧ True) ∧ (((52 : Nat) = (52 : Nat) ∧ rdP n s p q = rdP n s p q) ∧ True) ∧ True) ∧ (decide ((↑x_2 : Int) < (60 : Int)) = false → ((!wrF s q ((rdP n s p q).getD (↑x : Int).toNat va0).snd.fst x_2) = true → k [Dat.mk Ty.bool false]) ∧ ((!wrF s q ((rdP n s p q).getD (↑x : Int).toNat va0).snd.fst x_2) = false → inK IntKind.i64 ((↑x : Int) + (1 : Int)) ∧ ∃ (x_3 : Nat), (x_3 ≤ (rdP n s p q).length ∧ inB n (1 : Int) (5 : Int) = true) ∧ (rdP n s p q).length - x_3 < (rdP n s p q).length - x ∧ (n = n ∧ s = s ∧ q = q ∧ True ∧ (↑x : Int) + (1 : Int) = (↑x_3 : Int) ∧ True) ∧ (((52 : Nat) = (52 : Nat) ∧ rdP n s p q = rdP n s p q) ∧ True) ∧ True))) ∧ (decide ((↑x_2 : Int) < (↑s.length : Int)) = false → ((!wrF s q ((rdP n s p q).getD (↑x : Int).toNat va0).snd.fst x_2) = true → k [Dat.mk Ty.bool false]) ∧ ((!wrF s q ((rdP n s p q).getD (↑x : Int).toNat va0).snd.fst x_2) = false → inK IntKind.i64 ((↑x : Int) + (1 : Int)) ∧ ∃ (x_3 : Nat), (x_3 ≤ (rdP n s p q).length ∧ inB n (1 : Int) (5 : Int) = true) ∧ (rdP n s p q).length - x_3 < (rdP n s p q).length - x ∧ (n = n ∧ s = s ∧ q = q ∧ True ∧ (↑x : Int) + (1 : Int) = (↑x_3 : Int) ∧ True) ∧ (((52 : Nat) = (52 : Nat) ∧ rdP n s p q = rdP n s p q) ∧ True) ∧ True))))) ∧ (decide ((↑x : Int) < (↑(rdP n s p q).length : Int)) = false → k [Dat.mk Ty.bool true])))))) := by kernel_rfl
theorem vcLawGS (n : Int) (s : List (List Int)) (q : Int) (k : List Dat → Prop) : vcF ⟨Eg, [(22, cFactG), (27, cValues)], [], [], [(23, oPlayed), (24, oRead), (25, oAround), (26, oSync)]⟩ (anSame n s q) (Try.f7.body.getD .skip) Try.f7.ntmps [(.tmp 6, .bool)] [⟨I, n⟩, ⟨.sl (.sl I), s⟩, ⟨I, q⟩] k = (
  True ∧ ((!true) = true → k [Dat.mk Ty.bool false]) ∧ ((!true) = false → (inB n (1 : Int) (5 : Int) = false → (inB n (1 : Int) (5 : Int) = false → ((!false) = true → (decide (n < (1 : Int)) = true → k [Dat.mk Ty.bool true]) ∧ (decide (n < (1 : Int)) = false → k [Dat.mk Ty.bool (decide ((5 : Int) < n))])) ∧ ((!false) = false → ((!false) = true → (decide (n < (1 : Int)) = true → k [Dat.mk Ty.bool true]) ∧ (decide (n < (1 : Int)) = false → k [Dat.mk Ty.bool (decide ((5 : Int) < n))])) ∧ ((!false) = false → False))) ∧ (inB n (1 : Int) (5 : Int) = true → ((!false) = true → (decide (n < (1 : Int)) = true → k [Dat.mk Ty.bool true]) ∧ (decide (n < (1 : Int)) = false → k [Dat.mk Ty.bool (decide ((5 : Int) < n))])) ∧ ((!false) = false → ((!true) = true → (decide (n < (1 : Int)) = true → k [Dat.mk Ty.bool true]) ∧ (decide (n < (1 : Int)) = false → k [Dat.mk Ty.bool (decide ((5 : Int) < n))])) ∧ ((!true) = false → False)))) ∧ (inB n (1 : Int) (5 : Int) = true → (inB n (1 : Int) (5 : Int) = false → ((!true) = true → (decide (n < (1 : Int)) = true → k [Dat.mk Ty.bool true]) ∧ (decide (n < (1 : Int)) = false → k [Dat.mk Ty.bool (decide ((5 : Int) < n))])) ∧ ((!true) = false → ((!false) = true → (decide (n < (1 : Int)) = true → k [Dat.mk Ty.bool true]) ∧ (decide (n < (1 : Int)) = false → k [Dat.mk Ty.bool (decide ((5 : Int) < n))])) ∧ ((!false) = false → (NOk ((playN n s (60 : Nat)).fst, (playN n s (60 : Nat)).snd.fst, ()) ∧ n = (↑(playN n s (60 : Nat)).fst.length : Int)) ∧ ((!true) = true → k [Dat.mk Ty.bool false]) ∧ ((!true) = false → (NOk ((arF ((playN n s (60 : Nat)).fst, (playN n s (60 : Nat)).snd.fst, ())).fst, (arF ((playN n s (60 : Nat)).fst, (playN n s (60 : Nat)).snd.fst, ())).snd.fst, ()) ∧ n = (↑(arF ((playN n s (60 : Nat)).fst, (playN n s (60 : Nat)).snd.fst, ())).fst.length : Int)) ∧ ((!true) = true → k [Dat.mk Ty.bool false]) ∧ ((!true) = false → (∃ (x : Nat), (x ≤ (2 : Nat) ∧ inB n (1 : Int) (5 : Int) = true) ∧ False) ∧ ∀ (x : Nat), x ≤ (2 : Nat) ∧ inB n (1 : Int) (5 : Int) = true → (decide ((↑x : Int) < (2 : Int)) = true → inK IntKind.i64 (n - (1 : Int)) ∧ (∃ (x_1 : Nat), (x_1 ≤ n.toNat ∧ inB n (1 : Int) (5 : Int) = true) ∧ (n = n ∧ q = q ∧ True ∧ True ∧ (↑x : Int) = (↑x : Int) ∧ n - (1 : Int) = n - (1 : I.D) - (↑x_1 : Int) ∧ True) ∧ ((True ∧ True ∧ True) ∧ ((74 : Nat) = (74 : Nat) ∧ (ar2 n s).fst = (ar2 n s).fst) ∧ ((3 : Nat) = (3 : Nat) ∧ (ar2 n s).snd.fst = (ar2 n s).snd.fst) ∧ (True ∧ True ∧ True) ∧ ((74 : Nat) = (74 : Nat) ∧ (dnU n s x).fst = (dnP n.toNat (dnU n s (↑x : Int).toNat) x_1).fst) ∧ ((3 : Nat) = (3 : Nat) ∧ (dnU n s x).snd.fst = (dnP n.toNat (dnU n s (↑x : Int).toNat) x_1).snd.fst) ∧ True) ∧ True) ∧ ∀ (x_1 : Nat), x_1 ≤ n.toNat ∧ inB n (1 : Int) (5 : Int) = true → (decide ((0 : Int) ≤ n - (1 : I.D) - (↑x_1 : Int)) = true → (∃ (x_2 : Nat), (x_2 ≤ n.toNat ∧ inB n (1 : Int) (5 : Int) = true) ∧ (n = n ∧ q = q ∧ True ∧ True ∧ (↑x : Int) = (↑x : Int) ∧ n - (1 : I.D) - (↑x_1 : Int) = n - (1 : I.D) - (↑x_1 : Int) ∧ (0 : Int) = (↑x_2 : Int) ∧ True) ∧ ((True ∧ True ∧ True) ∧ ((74 : Nat) = (74 : Nat) ∧ (ar2 n s).fst = (ar2 n s).fst) ∧ ((3 : Nat) = (3 : Nat) ∧ (ar2 n s).snd.fst = (ar2 n s).snd.fst) ∧ (True ∧ True ∧ True) ∧ ((74 : Nat) = (74 : Nat) ∧ (dnP n.toNat (dnU n s (↑x : Int).toNat) x_1).fst = (arQ (n - (1 : I.D) - (↑x_1 : Int)).toNat (dnP n.toNat (dnU n s (↑x : Int).toNat) (n - (1 : Int) - (n - (1 : I.D) - (↑x_1 : Int))).toNat) x_2).fst) ∧ ((3 : Nat) = (3 : Nat) ∧ (dnP n.toNat (dnU n s (↑x : Int).toNat) x_1).snd.fst = (arQ (n - (1 : I.D) - (↑x_1 : Int)).toNat (dnP n.toNat (dnU n s (↑x : Int).toNat) (n - (1 : Int) - (n - (1 : I.D) - (↑x_1 : Int))).toNat) x_2).snd.fst) ∧ True) ∧ True) ∧ ∀ (x_2 : Nat), x_2 ≤ n.toNat ∧ inB n (1 : Int) (5 : Int) = true → (decide ((↑x_2 : Int) < n) = true → ((!decide (n - (1 : I.D) - (↑x_1 : Int) = (↑x_2 : Int))) = true → NetSh ((arQ (n - (1 : I.D) - (↑x_1 : Int)).toNat (dnP n.toNat (dnU n s (↑x : Int).toNat) (n - (1 : Int) - (n - (1 : I.D) - (↑x_1 : Int))).toNat) x_2).fst, (arQ (n - (1 : I.D) - (↑x_1 : Int)).toNat (dnP n.toNat (dnU n s (↑x : Int).toNat) (n - (1 : Int) - (n - (1 : I.D) - (↑x_1 : Int))).toNat) x_2).snd.fst, ()) ∧ ((!decide (syncE ((arQ (n - (1 : I.D) - (↑x_1 : Int)).toNat (dnP n.toNat (dnU n s (↑x : Int).toNat) (n - (1 : Int) - (n - (1 : I.D) - (↑x_1 : Int))).toNat) x_2).fst, (arQ (n - (1 : I.D) - (↑x_1 : Int)).toNat (dnP n.toNat (dnU n s (↑x : Int).toNat) (n - (1 : Int) - (n - (1 : I.D) - (↑x_1 : Int))).toNat) x_2).snd.fst, ()) (n - (1 : I.D) - (↑x_1 : Int)) (↑x_2 : Int) = (0 : Int))) = true → k [Dat.mk Ty.bool false]) ∧ ((!decide (syncE ((arQ (n - (1 : I.D) - (↑x_1 : Int)).toNat (dnP n.toNat (dnU n s (↑x : Int).toNat) (n - (1 : Int) - (n - (1 : I.D) - (↑x_1 : Int))).toNat) x_2).fst, (arQ (n - (1 : I.D) - (↑x_1 : Int)).toNat (dnP n.toNat (dnU n s (↑x : Int).toNat) (n - (1 : Int) - (n - (1 : I.D) - (↑x_1 : Int))).toNat) x_2).snd.fst, ()) (n - (1 : I.D) - (↑x_1 : Int)) (↑x_2 : Int) = (0 : Int))) = false → inK IntKind.i64 ((↑x_2 : Int) + (1 : Int)) ∧ ∃ (x_3 : Nat), (x_3 ≤ n.toNat ∧ inB n (1 : Int) (5 : Int) = true) ∧ n.toNat - x_3 < n.toNat - x_2 ∧ (n = n ∧ q = q ∧ True ∧ True ∧ (↑x : Int) = (↑x : Int) ∧ n - (1 : I.D) - (↑x_1 : Int) = n - (1 : I.D) - (↑x_1 : Int) ∧ (↑x_2 : Int) + (1 : Int) = (↑x_3 : Int) ∧ True) ∧ ((True ∧ True ∧ True) ∧ ((74 : Nat) = (74 : Nat) ∧ (ar2 n s).fst = (ar2 n s).fst) ∧ ((3 : Nat) = (3 : Nat) ∧ (ar2 n s).snd.fst = (ar2 n s).snd.fst) ∧ (True ∧ True ∧ True) ∧ ((74 : Nat) = (74 : Nat) ∧ (syncT ((arQ (n - (1 : I.D) - (↑x_1 : Int)).toNat (dnP n.toNat (dnU n s (↑x : Int).toNat) (n - (1 : Int) - (n - (1 : I.D) - (↑x_1 : Int))).toNat) x_2).fst, (arQ (n - (1 : I.D) - (↑x_1 : Int)).toNat (dnP n.toNat (dnU n s (↑x : Int).toNat) (n - (1 : Int) - (n - (1 : I.D) - (↑x_1 : Int))).toNat) x_2).snd.fst, ()) (n - (1 : I.D) - (↑x_1 : Int)) (↑x_2 : Int)).fst = (arQ (n - (1 : I.D) - (↑x_1 : Int)).toNat (dnP n.toNat (dnU n s (↑x : Int).toNat) (n - (1 : Int) - (n - (1 : I.D) - (↑x_1 : Int))).toNat) x_3).fst) ∧ ((3 : Nat) = (3 : Nat) ∧ (syncT ((arQ (n - (1 : I.D) - (↑x_1 : Int)).toNat (dnP n.toNat (dnU n s (↑x : Int).toNat) (n - (1 : Int) - (n - (1 : I.D) - (↑x_1 : Int))).toNat) x_2).fst, (arQ (n - (1 : I.D) - (↑x_1 : Int)).toNat (dnP n.toNat (dnU n s (↑x : Int).toNat) (n - (1 : Int) - (n - (1 : I.D) - (↑x_1 : Int))).toNat) x_2).snd.fst, ()) (n - (1 : I.D) - (↑x_1 : Int)) (↑x_2 : Int)).snd.fst = (arQ (n - (1 : I.D) - (↑x_1 : Int)).toNat (dnP n.toNat (dnU n s (↑x : Int).toNat) (n - (1 : Int) - (n - (1 : I.D) - (↑x_1 : Int))).toNat) x_3).snd.fst) ∧ True) ∧ True)) ∧ ((!decide (n - (1 : I.D) - (↑x_1 : Int) = (↑x_2 : Int))) = false → inK IntKind.i64 ((↑x_2 : Int) + (1 : Int)) ∧ ∃ (x_3 : Nat), (x_3 ≤ n.toNat ∧ inB n (1 : Int) (5 : Int) = true) ∧ n.toNat - x_3 < n.toNat - x_2 ∧ (n = n ∧ q = q ∧ True ∧ True ∧ (↑x : Int) = (↑x : Int) ∧ n - (1 : I.D) - (↑x_1 : Int) = n - (1 : I.D) - (↑x_1 : Int) ∧ (↑x_2 : Int) + (1 : Int) = (↑x_3 : Int) ∧ True) ∧ ((True ∧ True ∧ True) ∧ ((74 : Nat) = (74 : Nat) ∧ (ar2 n s).fst = (ar2 n s).fst) ∧ ((3 : Nat) = (3 : Nat) ∧ (ar2 n s).snd.fst = (ar2 n s).snd.fst) ∧ (True ∧ True ∧ True) ∧ ((74 : Nat) = (74 : Nat) ∧ (arQ (n - (1 : I.D) - (↑x_1 : Int)).toNat (dnP n.toNat (dnU n s (↑x : Int).toNat) (n - (1 : Int) - (n - (1 : I.D) - (↑x_1 : Int))).toNat) x_2).fst = (arQ (n - (1 : I.D) - (↑x_1 : Int)).toNat (dnP n.toNat (dnU n s (↑x : Int).toNat) (n - (1 : Int) - (n - (1 : I.D) - (↑x_1 : Int))).toNat) x_3).fst) ∧ ((3 : Nat) = (3 : Nat) ∧ (arQ (n - (1 : I.D) - (↑x_1 : Int)).toNat (dnP n.toNat (dnU n s (↑x : Int).toNat) (n - (1 : Int) - (n - (1 : I.D) - (↑x_1 : Int))).toNat) x_2).snd.fst = (arQ (n - (1 : I.D) - (↑x_1 : Int)).toNat (dnP n.toNat (dnU n s (↑x : Int).toNat) (n - (1 : Int) - (n - (1 : I.D) - (↑x_1 : Int))).toNat) x_3).snd.fst) ∧ True) ∧ True)) ∧ (decide ((↑x_2 : Int) < n) = false → inK IntKind.i64 (n - (1 : I.D) - (↑x_1 : Int) - (1 : Int)) ∧ ∃ (x_3 : Nat), (x_3 ≤ n.toNat ∧ inB n (1 : Int) (5 : Int) = true) ∧ n.toNat - x_3 < n.toNat - x_1 ∧ (n = n ∧ q = q ∧ True ∧ True ∧ (↑x : Int) = (↑x : Int) ∧ n - (1 : I.D) - (↑x_1 : Int) - (1 : Int) = n - (1 : I.D) - (↑x_3 : Int) ∧ True) ∧ ((True ∧ True ∧ True) ∧ ((74 : Nat) = (74 : Nat) ∧ (ar2 n s).fst = (ar2 n s).fst) ∧ ((3 : Nat) = (3 : Nat) ∧ (ar2 n s).snd.fst = (ar2 n s).snd.fst) ∧ (True ∧ True ∧ True) ∧ ((74 : Nat) = (74 : Nat) ∧ (arQ (n - (1 : I.D) - (↑x_1 : Int)).toNat (dnP n.toNat (dnU n s (↑x : Int).toNat) (n - (1 : Int) - (n - (1 : I.D) - (↑x_1 : Int))).toNat) x_2).fst = (dnP n.toNat (dnU n s (↑x : Int).toNat) x_3).fst) ∧ ((3 : Nat) = (3 : Nat) ∧ (arQ (n - (1 : I.D) - (↑x_1 : Int)).toNat (dnP n.toNat (dnU n s (↑x : Int).toNat) (n - (1 : Int) - (n - (1 : I.D) - (↑x_1 : Int))).toNat) x_2).snd.fst = (dnP n.toNat (dnU n s (↑x : Int).toNat) x_3).snd.fst) ∧ True) ∧ True)) ∧ (decide ((0 : Int) ≤ n - (1 : I.D) - (↑x_1 : Int)) = false → inK IntKind.i64 ((↑x : Int) + (1 : Int)) ∧ ∃ (x_2 : Nat), (x_2 ≤ (2 : Nat) ∧ inB n (1 : Int) (5 : Int) = true) ∧ (2 : Nat) - x_2 < (2 : Nat) - x ∧ (n = n ∧ q = q ∧ True ∧ True ∧ (↑x : Int) + (1 : Int) = (↑x_2 : Int) ∧ True) ∧ ((True ∧ True ∧ True) ∧ ((74 : Nat) = (74 : Nat) ∧ (ar2 n s).fst = (ar2 n s).fst) ∧ ((3 : Nat) = (3 : Nat) ∧ (ar2 n s).snd.fst = (ar2 n s).snd.fst) ∧ (True ∧ True ∧ True) ∧ ((74 : Nat) = (74 : Nat) ∧ (dnP n.toNat (dnU n s (↑x : Int).toNat) x_1).fst = (dnU n s x_2).fst) ∧ ((3 : Nat) = (3 : Nat) ∧ (dnP n.toNat (dnU n s (↑x : Int).toNat) x_1).snd.fst = (dnU n s x_2).snd.fst) ∧ True) ∧ True)) ∧ (decide ((↑x : Int) < (2 : Int)) = false → NetLen ((ar2 n s).fst, (ar2 n s).snd.fst, ()) ∧ (∃ (x_1 : Nat), (x_1 ≤ n.toNat ∧ inB n (1 : Int) (5 : Int) = true) ∧ (n = n ∧ q = q ∧ True ∧ True ∧ True ∧ (0 : Int) = (↑x_1 : Int) ∧ True) ∧ ((True ∧ True ∧ True) ∧ ((74 : Nat) = (74 : Nat) ∧ (ar2 n s).fst = (ar2 n s).fst) ∧ ((3 : Nat) = (3 : Nat) ∧ (ar2 n s).snd.fst = (ar2 n s).snd.fst) ∧ (True ∧ True ∧ True) ∧ ((74 : Nat) = (74 : Nat) ∧ (dnU n s x).fst = (dnU n s (2 : Nat)).fst) ∧ ((3 : Nat) = (3 : Nat) ∧ (dnU n s x).snd.fst = (dnU n s (2 : Nat)).snd.fst) ∧ ((52 : Nat) = (52 : Nat) ∧ readF ((ar2 n s).fst, (ar2 n s).snd.fst, ()) (0 : Int) q = readF (ar2 n s) (0 : Int) q) ∧ True) ∧ True) ∧ ∀ (x : Nat), x ≤ n.toNat ∧ inB n (1 : Int) (5 : Int) = true → (decide ((↑x : Int) < n) = true → NetLen ((ar2 n s).fst, (ar2 n s).snd.fst, ()) ∧ True ∧ ((!decide (readF ((ar2 n s).fst, (ar2 n s).snd.fst, ()) (↑x : Int) q = readF (ar2 n s) (0 : Int) q)) = true → k [Dat.mk Ty.bool false]) ∧ ((!decide (readF ((ar2 n s).fst, (ar2 n s).snd.fst, ()) (↑x : Int) q = readF (ar2 n s) (0 : Int) q)) = false → NetLen ((dnU n s (2 : Nat)).fst, (dnU n s (2 : Nat)).snd.fst, ()) ∧ True ∧ ((!decide (readF ((dnU n s (2 : Nat)).fst, (dnU n s (2 : Nat)).snd.fst, ()) (↑x : Int) q = readF (ar2 n s) (0 : Int) q)) = true → k [Dat.mk Ty.bool false]) ∧ ((!decide (readF ((dnU n s (2 : Nat)).fst, (dnU n s (2 : Nat)).snd.fst, ()) (↑x : Int) q = readF (ar2 n s) (0 : Int) q)) = false → inK IntKind.i64 ((↑x : Int) + (1 : Int)) ∧ ∃ (x_1 : Nat), (x_1 ≤ n.toNat ∧ inB n (1 : Int) (5 : Int) = true) ∧ n.toNat - x_1 < n.toNat - x ∧ (n = n ∧ q = q ∧ True ∧ True ∧ True ∧ (↑x : Int) + (1 : Int) = (↑x_1 : Int) ∧ True) ∧ ((True ∧ True ∧ True) ∧ ((74 : Nat) = (74 : Nat) ∧ (ar2 n s).fst = (ar2 n s).fst) ∧ ((3 : Nat) = (3 : Nat) ∧ (ar2 n s).snd.fst = (ar2 n s).snd.fst) ∧ (True ∧ True ∧ True) ∧ ((74 : Nat) = (74 : Nat) ∧ (dnU n s (2 : Nat)).fst = (dnU n s (2 : Nat)).fst) ∧ ((3 : Nat) = (3 : Nat) ∧ (dnU n s (2 : Nat)).snd.fst = (dnU n s (2 : Nat)).snd.fst) ∧ ((52 : Nat) = (52 : Nat) ∧ readF (ar2 n s) (0 : Int) q = readF (ar2 n s) (0 : Int) q) ∧ True) ∧ True))) ∧ (decide ((↑x : Int) < n) = false → k [Dat.mk Ty.bool true]))))))) ∧ (inB n (1 : Int) (5 : Int) = true → ((!true) = true → (decide (n < (1 : Int)) = true → k [Dat.mk Ty.bool true]) ∧ (decide (n < (1 : Int)) = false → k [Dat.mk Ty.bool (decide ((5 : Int) < n))])) ∧ ((!true) = false → ((!true) = true → (decide (n < (1 : Int)) = true → k [Dat.mk Ty.bool true]) ∧ (decide (n < (1 : Int)) = false → k [Dat.mk Ty.bool (decide ((5 : Int) < n))])) ∧ ((!true) = false → (NOk ((playN n s (60 : Nat)).fst, (playN n s (60 : Nat)).snd.fst, ()) ∧ n = (↑(playN n s (60 : Nat)).fst.length : Int)) ∧ ((!true) = true → k [Dat.mk Ty.bool false]) ∧ ((!true) = false → (NOk ((arF ((playN n s (60 : Nat)).fst, (playN n s (60 : Nat)).snd.fst, ())).fst, (arF ((playN n s (60 : Nat)).fst, (playN n s (60 : Nat)).snd.fst, ())).snd.fst, ()) ∧ n = (↑(arF ((playN n s (60 : Nat)).fst, (playN n s (60 : Nat)).snd.fst, ())).fst.length : Int)) ∧ ((!true) = true → k [Dat.mk Ty.bool false]) ∧ ((!true) = false → (∃ (x : Nat), (x ≤ (2 : Nat) ∧ inB n (1 : Int) (5 : Int) = true) ∧ (n = n ∧ q = q ∧ True ∧ True ∧ (0 : Int) = (↑x : Int) ∧ True) ∧ ((True ∧ True ∧ True) ∧ ((74 : Nat) = (74 : Nat) ∧ (arF ((arF ((playN n s (60 : Nat)).fst, (playN n s (60 : Nat)).snd.fst, ())).fst, (arF ((playN n s (60 : Nat)).fst, (playN n s (60 : Nat)).snd.fst, ())).snd.fst, ())).fst = (ar2 n s).fst) ∧ ((3 : Nat) = (3 : Nat) ∧ (arF ((arF ((playN n s (60 : Nat)).fst, (playN n s (60 : Nat)).snd.fst, ())).fst, (arF ((playN n s (60 : Nat)).fst, (playN n s (60 : Nat)).snd.fst, ())).snd.fst, ())).snd.fst = (ar2 n s).snd.fst) ∧ (True ∧ True ∧ True) ∧ ((74 : Nat) = (74 : Nat) ∧ (playN n s (60 : Nat)).fst = (dnU n s x).fst) ∧ ((3 : Nat) = (3 : Nat) ∧ (playN n s (60 : Nat)).snd.fst = (dnU n s x).snd.fst) ∧ True) ∧ True) ∧ ∀ (x : Nat), x ≤ (2 : Nat) ∧ inB n (1 : Int) (5 : Int) = true → (decide ((↑x : Int) < (2 : Int)) = true → inK IntKind.i64 (n - (1 : Int)) ∧ (∃ (x_1 : Nat), (x_1 ≤ n.toNat ∧ inB n (1 : Int) (5 : Int) = true) ∧ (n = n ∧ q = q ∧ True ∧ True ∧ (↑x : Int) = (↑x : Int) ∧ n - (1 : Int) = n - (1 : I.D) - (↑x_1 : Int) ∧ True) ∧ ((True ∧ True ∧ True) ∧ ((74 : Nat) = (74 : Nat) ∧ (ar2 n s).fst = (ar2 n s).fst) ∧ ((3 : Nat) = (3 : Nat) ∧ (ar2 n s).snd.fst = (ar2 n s).snd.fst) ∧ (True ∧ True ∧ True) ∧ ((74 : Nat) = (74 : Nat) ∧ (dnU n s x).fst = (dnP n.toNat (dnU n s (↑x : Int).toNat) x_1).fst) ∧ ((3 : Nat) = (3 : Nat) ∧ (dnU n s x).snd.fst = (dnP n.toNat (dnU n s (↑x : Int).toNat) x_1).snd.fst) ∧ True) ∧ True) ∧ ∀ (x_1 : Nat), x_1 ≤ n.toNat ∧ inB n (1 : Int) (5 : Int) = true → (decide ((0 : Int) ≤ n - (1 : I.D) - (↑x_1 : Int)) = true → (∃ (x_2 : Nat), (x_2 ≤ n.toNat ∧ inB n (1 : Int) (5 : Int) = true) ∧ (n = n ∧ q = q ∧ True ∧ True ∧ (↑x : Int) = (↑x : Int) ∧ n - (1 : I.D) - (↑x_1 : Int) = n - (1 : I.D) - (↑x_1 : Int) ∧ (0 : Int) = (↑x_2 : Int) ∧ True) ∧ ((True ∧ True ∧ True) ∧ ((74 : Nat) = (74 : Nat) ∧ (ar2 n s).fst = (ar2 n s).fst) ∧ ((3 : Nat) = (3 : Nat) ∧ (ar2 n s).snd.fst = (ar2 n s).snd.fst) ∧ (True ∧ True ∧ True) ∧ ((74 : Nat) = (74 : Nat) ∧ (dnP n.toNat (dnU n s (↑x : Int).toNat) x_1).fst = (arQ (n - (1 : I.D) - (↑x_1 : Int)).toNat (dnP n.toNat (dnU n s (↑x : Int).toNat) (n - (1 : Int) - (n - (1 : I.D) - (↑x_1 : Int))).toNat) x_2).fst) ∧ ((3 : Nat) = (3 : Nat) ∧ (dnP n.toNat (dnU n s (↑x : Int).toNat) x_1).snd.fst = (arQ (n - (1 : I.D) - (↑x_1 : Int)).toNat (dnP n.toNat (dnU n s (↑x : Int).toNat) (n - (1 : Int) - (n - (1 : I.D) - (↑x_1 : Int))).toNat) x_2).snd.fst) ∧ True) ∧ True) ∧ ∀ (x_2 : Nat), x_2 ≤ n.toNat ∧ inB n (1 : Int) (5 : Int) = true → (decide ((↑x_2 : Int) < n) = true → ((!decide (n - (1 : I.D) - (↑x_1 : Int) = (↑x_2 : Int))) = true → NetSh ((arQ (n - (1 : I.D) - (↑x_1 : Int)).toNat (dnP n.toNat (dnU n s (↑x : Int).toNat) (n - (1 : Int) - (n - (1 : I.D) - (↑x_1 : Int))).toNat) x_2).fst, (arQ (n - (1 : I.D) - (↑x_1 : Int)).toNat (dnP n.toNat (dnU n s (↑x : Int).toNat) (n - (1 : Int) - (n - (1 : I.D) - (↑x_1 : Int))).toNat) x_2).snd.fst, ()) ∧ ((!decide (syncE ((arQ (n - (1 : I.D) - (↑x_1 : Int)).toNat (dnP n.toNat (dnU n s (↑x : Int).toNat) (n - (1 : Int) - (n - (1 : I.D) - (↑x_1 : Int))).toNat) x_2).fst, (arQ (n - (1 : I.D) - (↑x_1 : Int)).toNat (dnP n.toNat (dnU n s (↑x : Int).toNat) (n - (1 : Int) - (n - (1 : I.D) - (↑x_1 : Int))).toNat) x_2).snd.fst, ()) (n - (1 : I.D) - (↑x_1 : Int)) (↑x_2 : Int) = (0 : Int))) = true → k [Dat.mk Ty.bool false]) ∧ ((!decide (syncE ((arQ (n - (1 : I.D) - (↑x_1 : Int)).toNat (dnP n.toNat (dnU n s (↑x : Int).toNat) (n - (1 : Int) - (n - (1 : I.D) - (↑x_1 : Int))).toNat) x_2).fst, (arQ (n - (1 : I.D) - (↑x_1 : Int)).toNat (dnP n.toNat (dnU n s (↑x : Int).toNat) (n - (1 : Int) - (n - (1 : I.D) - (↑x_1 : Int))).toNat) x_2).snd.fst, ()) (n - (1 : I.D) - (↑x_1 : Int)) (↑x_2 : Int) = (0 : Int))) = false → inK IntKind.i64 ((↑x_2 : Int) + (1 : Int)) ∧ ∃ (x_3 : Nat), (x_3 ≤ n.toNat ∧ inB n (1 : Int) (5 : Int) = true) ∧ n.toNat - x_3 < n.toNat - x_2 ∧ (n = n ∧ q = q ∧ True ∧ True ∧ (↑x : Int) = (↑x : Int) ∧ n - (1 : I.D) - (↑x_1 : Int) = n - (1 : I.D) - (↑x_1 : Int) ∧ (↑x_2 : Int) + (1 : Int) = (↑x_3 : Int) ∧ True) ∧ ((True ∧ True ∧ True) ∧ ((74 : Nat) = (74 : Nat) ∧ (ar2 n s).fst = (ar2 n s).fst) ∧ ((3 : Nat) = (3 : Nat) ∧ (ar2 n s).snd.fst = (ar2 n s).snd.fst) ∧ (True ∧ True ∧ True) ∧ ((74 : Nat) = (74 : Nat) ∧ (syncT ((arQ (n - (1 : I.D) - (↑x_1 : Int)).toNat (dnP n.toNat (dnU n s (↑x : Int).toNat) (n - (1 : Int) - (n - (1 : I.D) - (↑x_1 : Int))).toNat) x_2).fst, (arQ (n - (1 : I.D) - (↑x_1 : Int)).toNat (dnP n.toNat (dnU n s (↑x : Int).toNat) (n - (1 : Int) - (n - (1 : I.D) - (↑x_1 : Int))).toNat) x_2).snd.fst, ()) (n - (1 : I.D) - (↑x_1 : Int)) (↑x_2 : Int)).fst = (arQ (n - (1 : I.D) - (↑x_1 : Int)).toNat (dnP n.toNat (dnU n s (↑x : Int).toNat) (n - (1 : Int) - (n - (1 : I.D) - (↑x_1 : Int))).toNat) x_3).fst) ∧ ((3 : Nat) = (3 : Nat) ∧ (syncT ((arQ (n - (1 : I.D) - (↑x_1 : Int)).toNat (dnP n.toNat (dnU n s (↑x : Int).toNat) (n - (1 : Int) - (n - (1 : I.D) - (↑x_1 : Int))).toNat) x_2).fst, (arQ (n - (1 : I.D) - (↑x_1 : Int)).toNat (dnP n.toNat (dnU n s (↑x : Int).toNat) (n - (1 : Int) - (n - (1 : I.D) - (↑x_1 : Int))).toNat) x_2).snd.fst, ()) (n - (1 : I.D) - (↑x_1 : Int)) (↑x_2 : Int)).snd.fst = (arQ (n - (1 : I.D) - (↑x_1 : Int)).toNat (dnP n.toNat (dnU n s (↑x : Int).toNat) (n - (1 : Int) - (n - (1 : I.D) - (↑x_1 : Int))).toNat) x_3).snd.fst) ∧ True) ∧ True)) ∧ ((!decide (n - (1 : I.D) - (↑x_1 : Int) = (↑x_2 : Int))) = false → inK IntKind.i64 ((↑x_2 : Int) + (1 : Int)) ∧ ∃ (x_3 : Nat), (x_3 ≤ n.toNat ∧ inB n (1 : Int) (5 : Int) = true) ∧ n.toNat - x_3 < n.toNat - x_2 ∧ (n = n ∧ q = q ∧ True ∧ True ∧ (↑x : Int) = (↑x : Int) ∧ n - (1 : I.D) - (↑x_1 : Int) = n - (1 : I.D) - (↑x_1 : Int) ∧ (↑x_2 : Int) + (1 : Int) = (↑x_3 : Int) ∧ True) ∧ ((True ∧ True ∧ True) ∧ ((74 : Nat) = (74 : Nat) ∧ (ar2 n s).fst = (ar2 n s).fst) ∧ ((3 : Nat) = (3 : Nat) ∧ (ar2 n s).snd.fst = (ar2 n s).snd.fst) ∧ (True ∧ True ∧ True) ∧ ((74 : Nat) = (74 : Nat) ∧ (arQ (n - (1 : I.D) - (↑x_1 : Int)).toNat (dnP n.toNat (dnU n s (↑x : Int).toNat) (n - (1 : Int) - (n - (1 : I.D) - (↑x_1 : Int))).toNat) x_2).fst = (arQ (n - (1 : I.D) - (↑x_1 : Int)).toNat (dnP n.toNat (dnU n s (↑x : Int).toNat) (n - (1 : Int) - (n - (1 : I.D) - (↑x_1 : Int))).toNat) x_3).fst) ∧ ((3 : Nat) = (3 : Nat) ∧ (arQ (n - (1 : I.D) - (↑x_1 : Int)).toNat (dnP n.toNat (dnU n s (↑x : Int).toNat) (n - (1 : Int) - (n - (1 : I.D) - (↑x_1 : Int))).toNat) x_2).snd.fst = (arQ (n - (1 : I.D) - (↑x_1 : Int)).toNat (dnP n.toNat (dnU n s (↑x : Int).toNat) (n - (1 : Int) - (n - (1 : I.D) - (↑x_1 : Int))).toNat) x_3).snd.fst) ∧ True) ∧ True)) ∧ (decide ((↑x_2 : Int) < n) = false → inK IntKind.i64 (n - (1 : I.D) - (↑x_1 : Int) - (1 : Int)) ∧ ∃ (x_3 : Nat), (x_3 ≤ n.toNat ∧ inB n (1 : Int) (5 : Int) = true) ∧ n.toNat - x_3 < n.toNat - x_1 ∧ (n = n ∧ q = q ∧ True ∧ True ∧ (↑x : Int) = (↑x : Int) ∧ n - (1 : I.D) - (↑x_1 : Int) - (1 : Int) = n - (1 : I.D) - (↑x_3 : Int) ∧ True) ∧ ((True ∧ True ∧ True) ∧ ((74 : Nat) = (74 : Nat) ∧ (ar2 n s).fst = (ar2 n s).fst) ∧ ((3 : Nat) = (3 : Nat) ∧ (ar2 n s).snd.fst = (ar2 n s).snd.fst) ∧ (True ∧ True ∧ True) ∧ ((74 : Nat) = (74 : Nat) ∧ (arQ (n - (1 : I.D) - (↑x_1 : Int)).toNat (dnP n.toNat (dnU n s (↑x : Int).toNat) (n - (1 : Int) - (n - (1 : I.D) - (↑x_1 : Int))).toNat) x_2).fst = (dnP n.toNat (dnU n s (↑x : Int).toNat) x_3).fst) ∧ ((3 : Nat) = (3 : Nat) ∧ (arQ (n - (1 : I.D) - (↑x_1 : Int)).toNat (dnP n.toNat (dnU n s (↑x : Int).toNat) (n - (1 : Int) - (n - (1 : I.D) - (↑x_1 : Int))).toNat) x_2).snd.fst = (dnP n.toNat (dnU n s (↑x : Int).toNat) x_3).snd.fst) ∧ True) ∧ True)) ∧ (decide ((0 : Int) ≤ n - (1 : I.D) - (↑x_1 : Int)) = false → inK IntKind.i64 ((↑x : Int) + (1 : Int)) ∧ ∃ (x_2 : Nat), (x_2 ≤ (2 : Nat) ∧ inB n (1 : Int) (5 : Int) = true) ∧ (2 : Nat) - x_2 < (2 : Nat) - x ∧ (n = n ∧ q = q ∧ True ∧ True ∧ (↑x : Int) + (1 : Int) = (↑x_2 : Int) ∧ True) ∧ ((True ∧ True ∧ True) ∧ ((74 : Nat) = (74 : Nat) ∧ (ar2 n s).fst = (ar2 n s).fst) ∧ ((3 : Nat) = (3 : Nat) ∧ (ar2 n s).snd.fst = (ar2 n s).snd.fst) ∧ (True ∧ True ∧ True) ∧ ((74 : Nat) = (74 : Nat) ∧ (dnP n.toNat (dnU n s (↑x : Int).toNat) x_1).fst = (dnU n s x_2).fst) ∧ ((3 : Nat) = (3 : Nat) ∧ (dnP n.toNat (dnU n s (↑x : Int).toNat) x_1).snd.fst = (dnU n s x_2).snd.fst) ∧ True) ∧ True)) ∧ (decide ((↑x : Int) < (2 : Int)) = false → NetLen ((ar2 n s).fst, (ar2 n s).snd.fst, ()) ∧ (∃ (x_1 : Nat), (x_1 ≤ n.toNat ∧ inB n (1 : Int) (5 : Int) = true) ∧ (n = n ∧ q = q ∧ True ∧ True ∧ True ∧ (0 : Int) = (↑x_1 : Int) ∧ True) ∧ ((True ∧ True ∧ True) ∧ ((74 : Nat) = (74 : Nat) ∧ (ar2 n s).fst = (ar2 n s).fst) ∧ ((3 : Nat) = (3 : Nat) ∧ (ar2 n s).snd.fst = (ar2 n s).snd.fst) ∧ (True ∧ True ∧ True) ∧ ((74 : Nat) = (74 : Nat) ∧ (dnU n s x).fst = (dnU n s (2 : Nat)).fst) ∧ ((3 : Nat) = (3 : Nat) ∧ (dnU n s x).snd.fst = (dnU n s (2 : Nat)).snd.fst) ∧ ((52 : Nat) = (52 : Nat) ∧ readF ((ar2 n s).fst, (ar2 n s).snd.fst, ()) (0 : Int) q = readF (ar2 n s) (0 : Int) q) ∧ True) ∧ True) ∧ ∀ (x : Nat), x ≤ n.toNat ∧ inB n (1 : Int) (5 : Int) = true → (decide ((↑x : Int) < n) = true → NetLen ((ar2 n s).fst, (ar2 n s).snd.fst, ()) ∧ True ∧ ((!decide (readF ((ar2 n s).fst, (ar2 n s).snd.fst, ()) (↑x : Int) q = readF (ar2 n s) (0 : Int) q)) = true → k [Dat.mk Ty.bool false]) ∧ ((!decide (readF ((ar2 n s).fst, (ar2 n s).snd.fst, ()) (↑x : Int) q = readF (ar2 n s) (0 : Int) q)) = false → NetLen ((dnU n s (2 : Nat)).fst, (dnU n s (2 : Nat)).snd.fst, ()) ∧ True ∧ ((!decide (readF ((dnU n s (2 : Nat)).fst, (dnU n s (2 : Nat)).snd.fst, ()) (↑x : Int) q = readF (ar2 n s) (0 : Int) q)) = true → k [Dat.mk Ty.bool false]) ∧ ((!decide (readF ((dnU n s (2 : Nat)).fst, (dnU n s (2 : Nat)).snd.fst, ()) (↑x : Int) q = readF (ar2 n s) (0 : Int) q)) = false → inK IntKind.i64 ((↑x : Int) + (1 : Int)) ∧ ∃ (x_1 : Nat), (x_1 ≤ n.toNat ∧ inB n (1 : Int) (5 : Int) = true) ∧ n.toNat - x_1 < n.toNat - x ∧ (n = n ∧ q = q ∧ True ∧ True ∧ True ∧ (↑x : Int) + (1 : Int) = (↑x_1 : Int) ∧ True) ∧ ((True ∧ True ∧ True) ∧ ((74 : Nat) = (74 : Nat) ∧ (ar2 n s).fst = (ar2 n s).fst) ∧ ((3 : Nat) = (3 : Nat) ∧ (ar2 n s).snd.fst = (ar2 n s).snd.fst) ∧ (True ∧ True ∧ True) ∧ ((74 : Nat) = (74 : Nat) ∧ (dnU n s (2 : Nat)).fst = (dnU n s (2 : Nat)).fst) ∧ ((3 : Nat) = (3 : Nat) ∧ (dnU n s (2 : Nat)).snd.fst = (dnU n s (2 : Nat)).snd.fst) ∧ ((52 : Nat) = (52 : Nat) ∧ readF (ar2 n s) (0 : Int) q = readF (ar2 n s) (0 : Int) q) ∧ True) ∧ True))) ∧ (decide ((↑x : Int) < n) = false → k [Dat.mk Ty.bool true])))))))))) := by kernel_rfl
theorem vcLawGO (n : Int) (s : List (List Int)) (p q v : Int) (k : List Dat → Prop) : vcF ⟨Eg, [(22, cFactG), (27, cValues)], [], [], [(23, oPlayed), (24, oRead), (25, oAround), (28, oWrite)]⟩ (anOver n s p q v) (Try.f8.body.getD .skip) Try.f8.ntmps [(.tmp 10, .bool)] [⟨I, n⟩, ⟨.sl (.sl I), s⟩, ⟨I, p⟩, ⟨I, q⟩, ⟨I, v⟩] k = (
  True ∧ ((!true) = true → k [Dat.mk Ty.bool false]) ∧ ((!true) = false → (inB n (1 : Int) (5 : Int) = false → ((!false) = true → (decide (n < (1 : Int)) = true → k [Dat.mk Ty.bool true]) ∧ (decide (n < (1 : Int)) = false → k [Dat.mk Ty.bool (decide ((5 : Int) < n))])) ∧ ((!false) = false → False)) ∧ (inB n (1 : Int) (5 : Int) = true → ((!true) = true → (decide (n < (1 : Int)) = true → k [Dat.mk Ty.bool true]) ∧ (decide (n < (1 : Int)) = false → k [Dat.mk Ty.bool (decide ((5 : Int) < n))])) ∧ ((!true) = false → (NOk ((playN n s (60 : Nat)).fst, (playN n s (60 : Nat)).snd.fst, ()) ∧ n = (↑(playN n s (60 : Nat)).fst.length : Int)) ∧ ((!true) = true → k [Dat.mk Ty.bool false]) ∧ ((!true) = false → (NOk ((arF ((playN n s (60 : Nat)).fst, (playN n s (60 : Nat)).snd.fst, ())).fst, (arF ((playN n s (60 : Nat)).fst, (playN n s (60 : Nat)).snd.fst, ())).snd.fst, ()) ∧ n = (↑(arF ((playN n s (60 : Nat)).fst, (playN n s (60 : Nat)).snd.fst, ())).fst.length : Int)) ∧ ((!true) = true → k [Dat.mk Ty.bool false]) ∧ ((!true) = false → NetSh ((arF ((arF ((playN n s (60 : Nat)).fst, (playN n s (60 : Nat)).snd.fst, ())).fst, (arF ((playN n s (60 : Nat)).fst, (playN n s (60 : Nat)).snd.fst, ())).snd.fst, ())).fst, (arF ((arF ((playN n s (60 : Nat)).fst, (playN n s (60 : Nat)).snd.fst, ())).fst, (arF ((playN n s (60 : Nat)).fst, (playN n s (60 : Nat)).snd.fst, ())).snd.fst, ())).snd.fst, ()) ∧ ((!decide (writeE ((arF ((arF ((playN n s (60 : Nat)).fst, (playN n s (60 : Nat)).snd.fst, ())).fst, (arF ((playN n s (60 : Nat)).fst, (playN n s (60 : Nat)).snd.fst, ())).snd.fst, ())).fst, (arF ((arF ((playN n s (60 : Nat)).fst, (playN n s (60 : Nat)).snd.fst, ())).fst, (arF ((playN n s (60 : Nat)).fst, (playN n s (60 : Nat)).snd.fst, ())).snd.fst, ())).snd.fst, ()) p q v = (0 : Int))) = true → k [Dat.mk Ty.bool true]) ∧ ((!decide (writeE ((arF ((arF ((playN n s (60 : Nat)).fst, (playN n s (60 : Nat)).snd.fst, ())).fst, (arF ((playN n s (60 : Nat)).fst, (playN n s (60 : Nat)).snd.fst, ())).snd.fst, ())).fst, (arF ((arF ((playN n s (60 : Nat)).fst, (playN n s (60 : Nat)).snd.fst, ())).fst, (arF ((playN n s (60 : Nat)).fst, (playN n s (60 : Nat)).snd.fst, ())).snd.fst, ())).snd.fst, ()) p q v = (0 : Int))) = false → NetLen ((writeT ((arF ((arF ((playN n s (60 : Nat)).fst, (playN n s (60 : Nat)).snd.fst, ())).fst, (arF ((playN n s (60 : Nat)).fst, (playN n s (60 : Nat)).snd.fst, ())).snd.fst, ())).fst, (arF ((arF ((playN n s (60 : Nat)).fst, (playN n s (60 : Nat)).snd.fst, ())).fst, (arF ((playN n s (60 : Nat)).fst, (playN n s (60 : Nat)).snd.fst, ())).snd.fst, ())).snd.fst, ()) p q v).fst, (writeT ((arF ((arF ((playN n s (60 : Nat)).fst, (playN n s (60 : Nat)).snd.fst, ())).fst, (arF ((playN n s (60 : Nat)).fst, (playN n s (60 : Nat)).snd.fst, ())).snd.fst, ())).fst, (arF ((arF ((playN n s (60 : Nat)).fst, (playN n s (60 : Nat)).snd.fst, ())).fst, (arF ((playN n s (60 : Nat)).fst, (playN n s (60 : Nat)).snd.fst, ())).snd.fst, ())).snd.fst, ()) p q v).snd.fst, ()) ∧ ((!decide ((↑(readF ((writeT ((arF ((arF ((playN n s (60 : Nat)).fst, (playN n s (60 : Nat)).snd.fst, ())).fst, (arF ((playN n s (60 : Nat)).fst, (playN n s (60 : Nat)).snd.fst, ())).snd.fst, ())).fst, (arF ((arF ((playN n s (60 : Nat)).fst, (playN n s (60 : Nat)).snd.fst, ())).fst, (arF ((playN n s (60 : Nat)).fst, (playN n s (60 : Nat)).snd.fst, ())).snd.fst, ())).snd.fst, ()) p q v).fst, (writeT ((arF ((arF ((playN n s (60 : Nat)).fst, (playN n s (60 : Nat)).snd.fst, ())).fst, (arF ((playN n s (60 : Nat)).fst, (playN n s (60 : Nat)).snd.fst, ())).snd.fst, ())).fst, (arF ((arF ((playN n s (60 : Nat)).fst, (playN n s (60 : Nat)).snd.fst, ())).fst, (arF ((playN n s (60 : Nat)).fst, (playN n s (60 : Nat)).snd.fst, ())).snd.fst, ())).snd.fst, ()) p q v).snd.fst, ()) p q).length : Int) = (1 : Int))) = true → k [Dat.mk Ty.bool false]) ∧ ((!decide ((↑(readF ((writeT ((arF ((arF ((playN n s (60 : Nat)).fst, (playN n s (60 : Nat)).snd.fst, ())).fst, (arF ((playN n s (60 : Nat)).fst, (playN n s (60 : Nat)).snd.fst, ())).snd.fst, ())).fst, (arF ((arF ((playN n s (60 : Nat)).fst, (playN n s (60 : Nat)).snd.fst, ())).fst, (arF ((playN n s (60 : Nat)).fst, (playN n s (60 : Nat)).snd.fst, ())).snd.fst, ())).snd.fst, ()) p q v).fst, (writeT ((arF ((arF ((playN n s (60 : Nat)).fst, (playN n s (60 : Nat)).snd.fst, ())).fst, (arF ((playN n s (60 : Nat)).fst, (playN n s (60 : Nat)).snd.fst, ())).snd.fst, ())).fst, (arF ((arF ((playN n s (60 : Nat)).fst, (playN n s (60 : Nat)).snd.fst, ())).fst, (arF ((playN n s (60 : Nat)).fst, (playN n s (60 : Nat)).snd.fst, ())).snd.fst, ())).snd.fst, ()) p q v).snd.fst, ()) p q).length : Int) = (1 : Int))) = false → (0 : Int) ≤ (0 : Int) ∧ (0 : Int) < (↑(readF ((writeT ((arF ((arF ((playN n s (60 : Nat)).fst, (playN n s (60 : Nat)).snd.fst, ())).fst, (arF ((playN n s (60 : Nat)).fst, (playN n s (60 : Nat)).snd.fst, ())).snd.fst, ())).fst, (arF ((arF ((playN n s (60 : Nat)).fst, (playN n s (60 : Nat)).snd.fst, ())).fst, (arF ((playN n s (60 : Nat)).fst, (playN n s (60 : Nat)).snd.fst, ())).snd.fst, ())).snd.fst, ()) p q v).fst, (writeT ((arF ((arF ((playN n s (60 : Nat)).fst, (playN n s (60 : Nat)).snd.fst, ())).fst, (arF ((playN n s (60 : Nat)).fst, (playN n s (60 : Nat)).snd.fst, ())).snd.fst, ())).fst, (arF ((arF ((playN n s (60 : Nat)).fst, (playN n s (60 : Nat)).snd.fst, ())).fst, (arF ((playN n s (60 : Nat)).fst, (playN n s (60 : Nat)).snd.fst, ())).snd.fst, ())).snd.fst, ()) p q v).snd.fst, ()) p q).length : Int) ∧ ((!decide (((readF ((writeT ((arF ((arF ((playN n s (60 : Nat)).fst, (playN n s (60 : Nat)).snd.fst, ())).fst, (arF ((playN n s (60 : Nat)).fst, (playN n s (60 : Nat)).snd.fst, ())).snd.fst, ())).fst, (arF ((arF ((playN n s (60 : Nat)).fst, (playN n s (60 : Nat)).snd.fst, ())).fst, (arF ((playN n s (60 : Nat)).fst, (playN n s (60 : Nat)).snd.fst, ())).snd.fst, ())).snd.fst, ()) p q v).fst, (writeT ((arF ((arF ((playN n s (60 : Nat)).fst, (playN n s (60 : Nat)).snd.fst, ())).fst, (arF ((playN n s (60 : Nat)).fst, (playN n s (60 : Nat)).snd.fst, ())).snd.fst, ())).fst, (arF ((arF ((playN n s (60 : Nat)).fst, (playN n s (60 : Nat)).snd.fst, ())).fst, (arF ((playN n s (60 : Nat)).fst, (playN n s (60 : Nat)).snd.fst, ())).snd.fst, ())).snd.fst, ()) p q v).snd.fst, ()) p q).getD (0 : Nat) va0).snd.fst = v)) = true → k [Dat.mk Ty.bool false]) ∧ ((!decide (((readF ((writeT ((arF ((arF ((playN n s (60 : Nat)).fst, (playN n s (60 : Nat)).snd.fst, ())).fst, (arF ((playN n s (60 : Nat)).fst, (playN n s (60 : Nat)).snd.fst, ())).snd.fst, ())).fst, (arF ((arF ((playN n s (60 : Nat)).fst, (playN n s (60 : Nat)).snd.fst, ())).fst, (arF ((playN n s (60 : Nat)).fst, (playN n s (60 : Nat)).snd.fst, ())).snd.fst, ())).snd.fst, ()) p q v).fst, (writeT ((arF ((arF ((playN n s (60 : Nat)).fst, (playN n s (60 : Nat)).snd.fst, ())).fst, (arF ((playN n s (60 : Nat)).fst, (playN n s (60 : Nat)).snd.fst, ())).snd.fst, ())).fst, (arF ((arF ((playN n s (60 : Nat)).fst, (playN n s (60 : Nat)).snd.fst, ())).fst, (arF ((playN n s (60 : Nat)).fst, (playN n s (60 : Nat)).snd.fst, ())).snd.fst, ())).snd.fst, ()) p q v).snd.fst, ()) p q).getD (0 : Nat) va0).snd.fst = v)) = false → (NOk ((writeT ((arF ((arF ((playN n s (60 : Nat)).fst, (playN n s (60 : Nat)).snd.fst, ())).fst, (arF ((playN n s (60 : Nat)).fst, (playN n s (60 : Nat)).snd.fst, ())).snd.fst, ())).fst, (arF ((arF ((playN n s (60 : Nat)).fst, (playN n s (60 : Nat)).snd.fst, ())).fst, (arF ((playN n s (60 : Nat)).fst, (playN n s (60 : Nat)).snd.fst, ())).snd.fst, ())).snd.fst, ()) p q v).fst, (writeT ((arF ((arF ((playN n s (60 : Nat)).fst, (playN n s (60 : Nat)).snd.fst, ())).fst, (arF ((playN n s (60 : Nat)).fst, (playN n s (60 : Nat)).snd.fst, ())).snd.fst, ())).fst, (arF ((arF ((playN n s (60 : Nat)).fst, (playN n s (60 : Nat)).snd.fst, ())).fst, (arF ((playN n s (60 : Nat)).fst, (playN n s (60 : Nat)).snd.fst, ())).snd.fst, ())).snd.fst, ()) p q v).snd.fst, ()) ∧ n = (↑(writeT ((arF ((arF ((playN n s (60 : Nat)).fst, (playN n s (60 : Nat)).snd.fst, ())).fst, (arF ((playN n s (60 : Nat)).fst, (playN n s (60 : Nat)).snd.fst, ())).snd.fst, ())).fst, (arF ((arF ((playN n s (60 : Nat)).fst, (playN n s (60 : Nat)).snd.fst, ())).fst, (arF ((playN n s (60 : Nat)).fst, (playN n s (60 : Nat)).snd.fst, ())).snd.fst, ())).snd.fst, ()) p q v).fst.length : Int)) ∧ ((!true) = true → k [Dat.mk Ty.bool false]) ∧ ((!true) = false → (∃ (x : Nat), (x ≤ n.toNat ∧ inB n (1 : Int) (5 : Int) = true) ∧ (n = n ∧ q = q ∧ True ∧ True ∧ (0 : Int) = (↑x : Int) ∧ True) ∧ ((True ∧ True ∧ True) ∧ ((74 : Nat) = (74 : Nat) ∧ (arF ((writeT ((arF ((arF ((playN n s (60 : Nat)).fst, (playN n s (60 : Nat)).snd.fst, ())).fst, (arF ((playN n s (60 : Nat)).fst, (playN n s (60 : Nat)).snd.fst, ())).snd.fst, ())).fst, (arF ((arF ((playN n s (60 : Nat)).fst, (playN n s (60 : Nat)).snd.fst, ())).fst, (arF ((playN n s (60 : Nat)).fst, (playN n s (60 : Nat)).snd.fst, ())).snd.fst, ())).snd.fst, ()) p q v).fst, (writeT ((arF ((arF ((playN n s (60 : Nat)).fst, (playN n s (60 : Nat)).snd.fst, ())).fst, (arF ((playN n s (60 : Nat)).fst, (playN n s (60 : Nat)).snd.fst, ())).snd.fst, ())).fst, (arF ((arF ((playN n s (60 : Nat)).fst, (playN n s (60 : Nat)).snd.fst, ())).fst, (arF ((playN n s (60 : Nat)).fst, (playN n s (60 : Nat)).snd.fst, ())).snd.fst, ())).snd.fst, ()) p q v).snd.fst, ())).fst = (arF (ovT n s p q v)).fst) ∧ ((3 : Nat) = (3 : Nat) ∧ (arF ((writeT ((arF ((arF ((playN n s (60 : Nat)).fst, (playN n s (60 : Nat)).snd.fst, ())).fst, (arF ((playN n s (60 : Nat)).fst, (playN n s (60 : Nat)).snd.fst, ())).snd.fst, ())).fst, (arF ((arF ((playN n s (60 : Nat)).fst, (playN n s (60 : Nat)).snd.fst, ())).fst, (arF ((playN n s (60 : Nat)).fst, (playN n s (60 : Nat)).snd.fst, ())).snd.fst, ())).snd.fst, ()) p q v).fst, (writeT ((arF ((arF ((playN n s (60 : Nat)).fst, (playN n s (60 : Nat)).snd.fst, ())).fst, (arF ((playN n s (60 : Nat)).fst, (playN n s (60 : Nat)).snd.fst, ())).snd.fst, ())).fst, (arF ((arF ((playN n s (60 : Nat)).fst, (playN n s (60 : Nat)).snd.fst, ())).fst, (arF ((playN n s (60 : Nat)).fst, (playN n s (60 : Nat)).snd.fst, ())).snd.fst, ())).snd.fst, ()) p q v).snd.fst, ())).snd.fst = (arF (ovT n s p q v)).snd.fst) ∧ ((52 : Nat) = (52 : Nat) ∧ readF ((writeT ((arF ((arF ((playN n s (60 : Nat)).fst, (playN n s (60 : Nat)).snd.fst, ())).fst, (arF ((playN n s (60 : Nat)).fst, (playN n s (60 : Nat)).snd.fst, ())).snd.fst, ())).fst, (arF ((arF ((playN n s (60 : Nat)).fst, (playN n s (60 : Nat)).snd.fst, ())).fst, (arF ((playN n s (60 : Nat)).fst, (playN n s (60 : Nat)).snd.fst, ())).snd.fst, ())).snd.fst, ()) p q v).fst, (writeT ((arF ((arF ((playN n s (60 : Nat)).fst, (playN n s (60 : Nat)).snd.fst, ())).fst, (arF ((playN n s (60 : Nat)).fst, (playN n s (60 : Nat)).snd.fst, ())).snd.fst, ())).fst, (arF ((arF ((playN n s (60 : Nat)).fst, (playN n s (60 : Nat)).snd.fst, ())).fst, (arF ((playN n s (60 : Nat)).fst, (playN n s (60 : Nat)).snd.fst, ())).snd.fst, ())).snd.fst, ()) p q v).snd.fst, ()) p q = readF (ovT n s p q v) p q) ∧ True) ∧ True) ∧ ∀ (x : Nat), x ≤ n.toNat ∧ inB n (1 : Int) (5 : Int) = true → (decide ((↑x : Int) < n) = true → NetLen ((arF (ovT n s p q v)).fst, (arF (ovT n s p q v)).snd.fst, ()) ∧ True ∧ ((!decide (readF ((arF (ovT n s p q v)).fst, (arF (ovT n s p q v)).snd.fst, ()) (↑x : Int) q = readF (ovT n s p q v) p q)) = true → k [Dat.mk Ty.bool false]) ∧ ((!decide (readF ((arF (ovT n s p q v)).fst, (arF (ovT n s p q v)).snd.fst, ()) (↑x : Int) q = readF (ovT n s p q v) p q)) = false → inK IntKind.i64 ((↑x : Int) + (1 : Int)) ∧ ∃ (x_1 : Nat), (x_1 ≤ n.toNat ∧ inB n (1 : Int) (5 : Int) = true) ∧ n.toNat - x_1 < n.toNat - x ∧ (n = n ∧ q = q ∧ True ∧ True ∧ (↑x : Int) + (1 : Int) = (↑x_1 : Int) ∧ True) ∧ ((True ∧ True ∧ True) ∧ ((74 : Nat) = (74 : Nat) ∧ (arF (ovT n s p q v)).fst = (arF (ovT n s p q v)).fst) ∧ ((3 : Nat) = (3 : Nat) ∧ (arF (ovT n s p q v)).snd.fst = (arF (ovT n s p q v)).snd.fst) ∧ ((52 : Nat) = (52 : Nat) ∧ readF (ovT n s p q v) p q = readF (ovT n s p q v) p q) ∧ True) ∧ True)) ∧ (decide ((↑x : Int) < n) = false → k [Dat.mk Ty.bool true]))))))))))) := by kernel_rfl
theorem vcLawTM (n : Int) (s : List (List Int)) (p q v : Int) (k : List Dat → Prop) : vcF ⟨Egs, [(18, cMost), (19, cInts)], [], [], [(24, oRead), (26, oSync), (28, oWrite), (29, oNew)]⟩ (anTM n s p q v) (Try.f9.body.getD .skip) Try.f9.ntmps [(.tmp 10, .bool)] [⟨I, n⟩, ⟨.sl (.sl I), s⟩, ⟨I, p⟩, ⟨I, q⟩, ⟨I, v⟩] k = (
  True ∧ ((!decide (mostE (((List.replicate (2 : Nat) (0 : Int)).set (0 : Nat) (1 : Int)).set (1 : Nat) (5 : Int)) (((List.replicate (2 : Nat) (0 : Int)).set (0 : Nat) (4 : Int)).set (1 : Nat) (2 : Int)) = (0 : Int))) = true → k [Dat.mk Ty.bool false]) ∧ ((!decide (mostE (((List.replicate (2 : Nat) (0 : Int)).set (0 : Nat) (1 : Int)).set (1 : Nat) (5 : Int)) (((List.replicate (2 : Nat) (0 : Int)).set (0 : Nat) (4 : Int)).set (1 : Nat) (2 : Int)) = (0 : Int))) = false → True ∧ ((!decide (mostR (((List.replicate (2 : Nat) (0 : Int)).set (0 : Nat) (1 : Int)).set (1 : Nat) (5 : Int)) (((List.replicate (2 : Nat) (0 : Int)).set (0 : Nat) (4 : Int)).set (1 : Nat) (2 : Int)) = ((List.replicate (2 : Nat) (0 : Int)).set (0 : Nat) (4 : Int)).set (1 : Nat) (5 : Int))) = true → k [Dat.mk Ty.bool false]) ∧ ((!decide (mostR (((List.replicate (2 : Nat) (0 : Int)).set (0 : Nat) (1 : Int)).set (1 : Nat) (5 : Int)) (((List.replicate (2 : Nat) (0 : Int)).set (0 : Nat) (4 : Int)).set (1 : Nat) (2 : Int)) = ((List.replicate (2 : Nat) (0 : Int)).set (0 : Nat) (4 : Int)).set (1 : Nat) (5 : Int))) = false → (inB n (1 : Int) (5 : Int) = false → ((!decide ((1 : Int) = (0 : Int))) = true → (decide (n < (1 : Int)) = true → k [Dat.mk Ty.bool true]) ∧ (decide (n < (1 : Int)) = false → k [Dat.mk Ty.bool (decide ((5 : Int) < n))])) ∧ ((!decide ((1 : Int) = (0 : Int))) = false → (∃ (x : Nat), ((x ≤ s.length ∧ x ≤ (50 : Nat)) ∧ inB n (1 : Int) (5 : Int) = true) ∧ (n = n ∧ s = s ∧ p = p ∧ q = q ∧ v = v ∧ True ∧ (0 : Int) = (↑x : Int) ∧ True) ∧ (False ∧ False ∧ False ∧ True) ∧ True) ∧ ∀ (x : Nat), (x ≤ s.length ∧ x ≤ (50 : Nat)) ∧ inB n (1 : Int) (5 : Int) = true → (decide ((↑x : Int) < (↑s.length : Int)) = true → (decide ((↑x : Int) < (50 : Int)) = true → (0 : Int) ≤ (↑x : Int) ∧ (↑x : Int) < (↑s.length : Int) ∧ (decide ((↑(s.getD (↑x : Int).toNat []).length : Int) = (3 : Int)) = true → ((0 : Int) ≤ (0 : Int) ∧ (0 : Int) < (↑(s.getD (↑x : Int).toNat []).length : Int) ∧ (0 : Int) ≤ (1 : Int) ∧ (1 : Int) < (↑(s.getD (↑x : Int).toNat []).length : Int) ∧ (0 : Int) ≤ (2 : Int) ∧ (2 : Int) < (↑(s.getD (↑x : Int).toNat []).length : Int) ∧ True) ∧ False) ∧ (decide ((↑(s.getD (↑x : Int).toNat []).length : Int) = (3 : Int)) = false → (decide ((↑(s.getD (↑x : Int).toNat []).length : Int) = (2 : Int)) = true → ((0 : Int) ≤ (0 : Int) ∧ (0 : Int) < (↑(s.getD (↑x : Int).toNat []).length : Int) ∧ (0 : Int) ≤ (1 : Int) ∧ (1 : Int) < (↑(s.getD (↑x : Int).toNat []).length : Int) ∧ True) ∧ False) ∧ (decide ((↑(s.getD (↑x : Int).toNat []).length : Int) = (2 : Int)) = false → inK IntKind.i64 ((↑x : Int) + (1 : Int)) ∧ ∃ (x_1 : Nat), ((x_1 ≤ s.length ∧ x_1 ≤ (50 : Nat)) ∧ inB n (1 : Int) (5 : Int) = true) ∧ (100 : Nat) - x_1 < (100 : Nat) - x ∧ (n = n ∧ s = s ∧ p = p ∧ q = q ∧ v = v ∧ True ∧ (↑x : Int) + (1 : Int) = (↑x_1 : Int) ∧ True) ∧ ((True ∧ True ∧ True) ∧ ((74 : Nat) = (74 : Nat) ∧ (playF n.toNat s x).fst = (playF n.toNat s x_1).fst) ∧ ((3 : Nat) = (3 : Nat) ∧ (playF n.toNat s x).snd.fst = (playF n.toNat s x_1).snd.fst) ∧ True) ∧ True))) ∧ (decide ((↑x : Int) < (50 : Int)) = false → False)) ∧ (decide ((↑x : Int) < (↑s.length : Int)) = false → False))) ∧ (inB n (1 : Int) (5 : Int) = true → ((!decide ((0 : Int) = (0 : Int))) = true → (decide (n < (1 : Int)) = true → k [Dat.mk Ty.bool true]) ∧ (decide (n < (1 : Int)) = false → k [Dat.mk Ty.bool (decide ((5 : Int) < n))])) ∧ ((!decide ((0 : Int) = (0 : Int))) = false → (∃ (x : Nat), ((x ≤ s.length ∧ x ≤ (50 : Nat)) ∧ inB n (1 : Int) (5 : Int) = true) ∧ (n = n ∧ s = s ∧ p = p ∧ q = q ∧ v = v ∧ True ∧ (0 : Int) = (↑x : Int) ∧ True) ∧ ((True ∧ True ∧ True) ∧ ((74 : Nat) = (74 : Nat) ∧ List.replicate n.toNat (List.replicate (4 : Nat) []) = (playF n.toNat s x).fst) ∧ ((3 : Nat) = (3 : Nat) ∧ List.replicate n.toNat (0 : Int) = (playF n.toNat s x).snd.fst) ∧ True) ∧ True) ∧ ∀ (x : Nat), (x ≤ s.length ∧ x ≤ (50 : Nat)) ∧ inB n (1 : Int) (5 : Int) = true → (decide ((↑x : Int) < (↑s.length : Int)) = true → (decide ((↑x : Int) < (50 : Int)) = true → (0 : Int) ≤ (↑x : Int) ∧ (↑x : Int) < (↑s.length : Int) ∧ (decide ((↑(s.getD (↑x : Int).toNat []).length : Int) = (3 : Int)) = true → ((0 : Int) ≤ (0 : Int) ∧ (0 : Int) < (↑(s.getD (↑x : Int).toNat []).length : Int) ∧ (0 : Int) ≤ (1 : Int) ∧ (1 : Int) < (↑(s.getD (↑x : Int).toNat []).length : Int) ∧ (0 : Int) ≤ (2 : Int) ∧ (2 : Int) < (↑(s.getD (↑x : Int).toNat []).length : Int) ∧ True) ∧ NetSh ((playF n.toNat s x).fst, (playF n.toNat s x).snd.fst, ()) ∧ (decide ((↑(s.getD (↑x : Int).toNat []).length : Int) = (2 : Int)) = true → ((0 : Int) ≤ (0 : Int) ∧ (0 : Int) < (↑(s.getD (↑x : Int).toNat []).length : Int) ∧ (0 : Int) ≤ (1 : Int) ∧ (1 : Int) < (↑(s.getD (↑x : Int).toNat []).length : Int) ∧ True) ∧ NetSh ((writeT ((playF n.toNat s x).fst, (playF n.toNat s x).snd.fst, ()) ((s.getD (↑x : Int).toNat []).getD (Int.toNat (0 : Int)) (0 : Int)) ((s.getD (↑x : Int).toNat []).getD (Int.toNat (1 : Int)) (0 : Int)) ((s.getD (↑x : Int).toNat []).getD (Int.toNat (2 : Int)) (0 : Int))).fst, (writeT ((playF n.toNat s x).fst, (playF n.toNat s x).snd.fst, ()) ((s.getD (↑x : Int).toNat []).getD (Int.toNat (0 : Int)) (0 : Int)) ((s.getD (↑x : Int).toNat []).getD (Int.toNat (1 : Int)) (0 : Int)) ((s.getD (↑x : Int).toNat []).getD (Int.toNat (2 : Int)) (0 : Int))).snd.fst, ()) ∧ inK IntKind.i64 ((↑x : Int) + (1 : Int)) ∧ ∃ (x_1 : Nat), ((x_1 ≤ s.length ∧ x_1 ≤ (50 : Nat)) ∧ inB n (1 : Int) (5 : Int) = true) ∧ (100 : Nat) - x_1 < (100 : Nat) - x ∧ (n = n ∧ s = s ∧ p = p ∧ q = q ∧ v = v ∧ True ∧ (↑x : Int) + (1 : Int) = (↑x_1 : Int) ∧ True) ∧ ((True ∧ True ∧ True) ∧ ((74 : Nat) = (74 : Nat) ∧ (syncT ((writeT ((playF n.toNat s x).fst, (playF n.toNat s x).snd.fst, ()) ((s.getD (↑x : Int).toNat []).getD (Int.toNat (0 : Int)) (0 : Int)) ((s.getD (↑x : Int).toNat []).getD (Int.toNat (1 : Int)) (0 : Int)) ((s.getD (↑x : Int).toNat []).getD (Int.toNat (2 : Int)) (0 : Int))).fst, (writeT ((playF n.toNat s x).fst, (playF n.toNat s x).snd.fst, ()) ((s.getD (↑x : Int).toNat []).getD (Int.toNat (0 : Int)) (0 : Int)) ((s.getD (↑x : Int).toNat []).getD (Int.toNat (1 : Int)) (0 : Int)) ((s.getD (↑x : Int).toNat []).getD (Int.toNat (2 : Int)) (0 : Int))).snd.fst, ()) ((s.getD (↑x : Int).toNat []).getD (Int.toNat (0 : Int)) (0 : Int)) ((s.getD (↑x : Int).toNat []).getD (Int.toNat (1 : Int)) (0 : Int))).fst = (playF n.toNat s x_1).fst) ∧ ((3 : Nat) = (3 : Nat) ∧ (syncT ((writeT ((playF n.toNat s x).fst, (playF n.toNat s x).snd.fst, ()) ((s.getD (↑x : Int).toNat []).getD (Int.toNat (0 : Int)) (0 : Int)) ((s.getD (↑x : Int).toNat []).getD (Int.toNat (1 : Int)) (0 : Int)) ((s.getD (↑x : Int).toNat []).getD (Int.toNat (2 : Int)) (0 : Int))).fst, (writeT ((playF n.toNat s x).fst, (playF n.toNat s x).snd.fst, ()) ((s.getD (↑x : Int).toNat []).getD (Int.toNat (0 : Int)) (0 : Int)) ((s.getD (↑x : Int).toNat []).getD (Int.toNat (1 : Int)) (0 : Int)) ((s.getD (↑x : Int).toNat []).getD (Int.toNat (2 : Int)) (0 : Int))).snd.fst, ()) ((s.getD (↑x : Int).toNat []).getD (Int.toNat (0 : Int)) (0 : Int)) ((s.getD (↑x : Int).toNat []).getD (Int.toNat (1 : Int)) (0 : Int))).snd.fst = (playF n.toNat s x_1).snd.fst) ∧ True) ∧ True) ∧ (decide ((↑(s.getD (↑x : Int).toNat []).length : Int) = (2 : Int)) = false → inK IntKind.i64 ((↑x : Int) + (1 : Int)) ∧ ∃ (x_1 : Nat), ((x_1 ≤ s.length ∧ x_1 ≤ (50 : Nat)) ∧ inB n (1 : Int) (5 : Int) = true) ∧ (100 : Nat) - x_1 < (100 : Nat) - x ∧ (n = n ∧ s = s ∧ p = p ∧ q = q ∧ v = v ∧ True ∧ (↑x : Int) + (1 : Int) = (↑x_1 : Int) ∧ True) ∧ ((True ∧ True ∧ True) ∧ ((74 : Nat) = (74 : Nat) ∧ (writeT ((playF n.toNat s x).fst, (playF n.toNat s x).snd.fst, ()) ((s.getD (↑x : Int).toNat []).getD (Int.toNat (0 : Int)) (0 : Int)) ((s.getD (↑x : Int).toNat []).getD (Int.toNat (1 : Int)) (0 : Int)) ((s.getD (↑x : Int).toNat []).getD (Int.toNat (2 : Int)) (0 : Int))).fst = (playF n.toNat s x_1).fst) ∧ ((3 : Nat) = (3 : Nat) ∧ (writeT ((playF n.toNat s x).fst, (playF n.toNat s x).snd.fst, ()) ((s.getD (↑x : Int).toNat []).getD (Int.toNat (0 : Int)) (0 : Int)) ((s.getD (↑x : Int).toNat []).getD (Int.toNat (1 : Int)) (0 : Int)) ((s.getD (↑x : Int).toNat []).getD (Int.toNat (2 : Int)) (0 : Int))).snd.fst = (playF n.toNat s x_1).snd.fst) ∧ True) ∧ True)) ∧ (decide ((↑(s.getD (↑x : Int).toNat []).length : Int) = (3 : Int)) = false → (decide ((↑(s.getD (↑x : Int).toNat []).length : Int) = (2 : Int)) = true → ((0 : Int) ≤ (0 : Int) ∧ (0 : Int) < (↑(s.getD (↑x : Int).toNat []).length : Int) ∧ (0 : Int) ≤ (1 : Int) ∧ (1 : Int) < (↑(s.getD (↑x : Int).toNat []).length : Int) ∧ True) ∧ NetSh ((playF n.toNat s x).fst, (playF n.toNat s x).snd.fst, ()) ∧ inK IntKind.i64 ((↑x : Int) + (1 : Int)) ∧ ∃ (x_1 : Nat), ((x_1 ≤ s.length ∧ x_1 ≤ (50 : Nat)) ∧ inB n (1 : Int) (5 : Int) = true) ∧ (100 : Nat) - x_1 < (100 : Nat) - x ∧ (n = n ∧ s = s ∧ p = p ∧ q = q ∧ v = v ∧ True ∧ (↑x : Int) + (1 : Int) = (↑x_1 : Int) ∧ True) ∧ ((True ∧ True ∧ True) ∧ ((74 : Nat) = (74 : Nat) ∧ (syncT ((playF n.toNat s x).fst, (playF n.toNat s x).snd.fst, ()) ((s.getD (↑x : Int).toNat []).getD (Int.toNat (0 : Int)) (0 : Int)) ((s.getD (↑x : Int).toNat []).getD (Int.toNat (1 : Int)) (0 : Int))).fst = (playF n.toNat s x_1).fst) ∧ ((3 : Nat) = (3 : Nat) ∧ (syncT ((playF n.toNat s x).fst, (playF n.toNat s x).snd.fst, ()) ((s.getD (↑x : Int).toNat []).getD (Int.toNat (0 : Int)) (0 : Int)) ((s.getD (↑x : Int).toNat []).getD (Int.toNat (1 : Int)) (0 : Int))).snd.fst = (playF n.toNat s x_1).snd.fst) ∧ True) ∧ True) ∧ (decide ((↑(s.getD (↑x : Int).toNat []).length : Int) = (2 : Int)) = false → inK IntKind.i64 ((↑x : Int) + (1 : Int)) ∧ ∃ (x_1 : Nat), ((x_1 ≤ s.length ∧ x_1 ≤ (50 : Nat)) ∧ inB n (1 : Int) (5 : Int) = true) ∧ (100 : Nat) - x_1 < (100 : Nat) - x ∧ (n = n ∧ s = s ∧ p = p ∧ q = q ∧ v = v ∧ True ∧ (↑x : Int) + (1 : Int) = (↑x_1 : Int) ∧ True) ∧ ((True ∧ True ∧ True) ∧ ((74 : Nat) = (74 : Nat) ∧ (playF n.toNat s x).fst = (playF n.toNat s x_1).fst) ∧ ((3 : Nat) = (3 : Nat) ∧ (playF n.toNat s x).snd.fst = (playF n.toNat s x_1).snd.fst) ∧ True) ∧ True))) ∧ (decide ((↑x : Int) < (50 : Int)) = false → NetLen ((playF n.toNat s x).fst, (playF n.toNat s x).snd.fst, ()) ∧ NetSh ((playF n.toNat s x).fst, (playF n.toNat s x).snd.fst, ()) ∧ ((!decide (writeE ((playF n.toNat s x).fst, (playF n.toNat s x).snd.fst, ()) p q v = (0 : Int))) = true → k [Dat.mk Ty.bool true]) ∧ ((!decide (writeE ((playF n.toNat s x).fst, (playF n.toNat s x).snd.fst, ()) p q v = (0 : Int))) = false → NetLen ((writeT ((playF n.toNat s x).fst, (playF n.toNat s x).snd.fst, ()) p q v).fst, (writeT ((playF n.toNat s x).fst, (playF n.toNat s x).snd.fst, ()) p q v).snd.fst, ()) ∧ ((!decide ((↑(readF ((writeT ((playF n.toNat s x).fst, (playF n.toNat s x).snd.fst, ()) p q v).fst, (writeT ((playF n.toNat s x).fst, (playF n.toNat s x).snd.fst, ()) p q v).snd.fst, ()) p q).length : Int) = (1 : Int))) = true → k [Dat.mk Ty.bool false]) ∧ ((!decide ((↑(readF ((writeT ((playF n.toNat s x).fst, (playF n.toNat s x).snd.fst, ()) p q v).fst, (writeT ((playF n.toNat s x).fst, (playF n.toNat s x).snd.fst, ()) p q v).snd.fst, ()) p q).length : Int) = (1 : Int))) = false → (decide (p < (0 : Int)) = true → k [Dat.mk Ty.bool false]) ∧ (decide (p < (0 : Int)) = false → (decide (n ≤ p) = true → k [Dat.mk Ty.bool false]) ∧ (decide (n ≤ p) = false → (0 : Int) ≤ (0 : Int) ∧ (0 : Int) < (↑(readF ((writeT ((playF n.toNat s x).fst, (playF n.toNat s x).snd.fst, ()) p q v).fst, (writeT ((playF n.toNat s x).fst, (playF n.toNat s x).snd.fst, ()) p q v).snd.fst, ()) p q).length : Int) ∧ ((!decide ((↑(List.length ((readF ((writeT ((playF n.toNat s x).fst, (playF n.toNat s x).snd.fst, ()) p q v).fst, (writeT ((playF n.toNat s x).fst, (playF n.toNat s x).snd.fst, ()) p q v).snd.fst, ()) p q).getD (0 : Nat) va0).fst) : Int) = n)) = true → k [Dat.mk Ty.bool false]) ∧ ((!decide ((↑(List.length ((readF ((writeT ((playF n.toNat s x).fst, (playF n.toNat s x).snd.fst, ()) p q v).fst, (writeT ((playF n.toNat s x).fst, (playF n.toNat s x).snd.fst, ()) p q v).snd.fst, ()) p q).getD (0 : Nat) va0).fst) : Int) = n)) = false → (0 : Int) ≤ n ∧ n ≤ n ∧ n ≤ (1000000000 : Int) ∧ (∃ (x_1 : Nat), (x_1 ≤ (hadT n s p q).length ∧ inB n (1 : Int) (5 : Int) = true ∧ writeE (playN n s (50 : Nat)) p q v = (0 : Int)) ∧ (n = n ∧ p = p ∧ True ∧ True ∧ List.replicate n.toNat (0 : Int) = accU (hadT n s p q) n.toNat x_1 ∧ (0 : Int) = (↑x_1 : Int) ∧ True) ∧ (((52 : Nat) = (52 : Nat) ∧ readF ((playF n.toNat s x).fst, (playF n.toNat s x).snd.fst, ()) p q = hadT n s p q) ∧ ((52 : Nat) = (52 : Nat) ∧ readF ((writeT ((playF n.toNat s x).fst, (playF n.toNat s x).snd.fst, ()) p q v).fst, (writeT ((playF n.toNat s x).fst, (playF n.toNat s x).snd.fst, ()) p q v).snd.fst, ()) p q = nowT n s p q v) ∧ True) ∧ True) ∧ ∀ (x : Nat), x ≤ (hadT n s p q).length ∧ inB n (1 : Int) (5 : Int) = true ∧ writeE (playN n s (50 : Nat)) p q v = (0 : Int) → (decide ((↑x : Int) < (↑(hadT n s p q).length : Int)) = true → (0 : Int) ≤ (↑x : Int) ∧ (↑x : Int) < (↑(hadT n s p q).length : Int) ∧ True ∧ ((!decide (mostE (accU (hadT n s p q) n.toNat x) ((hadT n s p q).getD (↑x : Int).toNat va0).fst = (0 : Int))) = true → k [Dat.mk Ty.bool false]) ∧ ((!decide (mostE (accU (hadT n s p q) n.toNat x) ((hadT n s p q).getD (↑x : Int).toNat va0).fst = (0 : Int))) = false → inK IntKind.i64 ((↑x : Int) + (1 : Int)) ∧ ∃ (x_1 : Nat), (x_1 ≤ (hadT n s p q).length ∧ inB n (1 : Int) (5 : Int) = true ∧ writeE (playN n s (50 : Nat)) p q v = (0 : Int)) ∧ (hadT n s p q).length - x_1 < (hadT n s p q).length - x ∧ (n = n ∧ p = p ∧ True ∧ True ∧ mostR (accU (hadT n s p q) n.toNat x) ((hadT n s p q).getD (↑x : Int).toNat va0).fst = accU (hadT n s p q) n.toNat x_1 ∧ (↑x : Int) + (1 : Int) = (↑x_1 : Int) ∧ True) ∧ (((52 : Nat) = (52 : Nat) ∧ hadT n s p q = hadT n s p q) ∧ ((52 : Nat) = (52 : Nat) ∧ nowT n s p q v = nowT n s p q v) ∧ True) ∧ True)) ∧ (decide ((↑x : Int) < (↑(hadT n s p q).length : Int)) = false → (∃ (x_1 : Nat), (x_1 ≤ n.toNat ∧ inB n (1 : Int) (5 : Int) = true ∧ writeE (playN n s (50 : Nat)) p q v = (0 : Int)) ∧ (n = n ∧ p = p ∧ True ∧ accU (hadT n s p q) n.toNat x = accU (hadT n s p q) n.toNat x ∧ (0 : Int) = (↑x_1 : Int) ∧ True) ∧ (((52 : Nat) = (52 : Nat) ∧ nowT n s p q v = nowT n s p q v) ∧ True) ∧ True) ∧ ∀ (x_1 : Nat), x_1 ≤ n.toNat ∧ inB n (1 : Int) (5 : Int) = true ∧ writeE (playN n s (50 : Nat)) p q v = (0 : Int) → (decide ((↑x_1 : Int) < n) = true → (((!decide ((↑x_1 : Int) = p)) = true → (0 : Int) ≤ (0 : Int) ∧ (0 : Int) < (↑(nowT n s p q v).length : Int) ∧ (0 : Int) ≤ (↑x_1 : Int) ∧ (↑x_1 : Int) < (↑(List.length ((nowT n s p q v).getD (0 : Nat) va0).fst) : Int) ∧ (0 : Int) ≤ (↑x_1 : Int) ∧ (↑x_1 : Int) < (↑(accU (hadT n s p q) n.toNat x).length : Int) ∧ ((!decide (List.getD ((nowT n s p q v).getD (0 : Nat) va0).fst (↑x_1 : Int).toNat (0 : Int) = (accU (hadT n s p q) n.toNat x).getD (↑x_1 : Int).toNat (0 : Int))) = true → True) ∧ ((!decide (List.getD ((nowT n s p q v).getD (0 : Nat) va0).fst (↑x_1 : Int).toNat (0 : Int) = (accU (hadT n s p q) n.toNat x).getD (↑x_1 : Int).toNat (0 : Int))) = false → (decide ((↑x_1 : Int) = p) = true → (0 : Int) ≤ (0 : Int) ∧ (0 : Int) < (↑(nowT n s p q v).length : Int) ∧ (0 : Int) ≤ (↑x_1 : Int) ∧ (↑x_1 : Int) < (↑(List.length ((nowT n s p q v).getD (0 : Nat) va0).fst) : Int) ∧ (0 : Int) ≤ (↑x_1 : Int) ∧ (↑x_1 : Int) < (↑(accU (hadT n s p q) n.toNat x).length : Int) ∧ True) ∧ (decide ((↑x_1 : Int) = p) = false → True))) ∧ ((!decide ((↑x_1 : Int) = p)) = false → (decide ((↑x_1 : Int) = p) = true → (0 : Int) ≤ (0 : Int) ∧ (0 : Int) < (↑(nowT n s p q v).length : Int) ∧ (0 : Int) ≤ (↑x_1 : Int) ∧ (↑x_1 : Int) < (↑(List.length ((nowT n s p q v).getD (0 : Nat) va0).fst) : Int) ∧ (0 : Int) ≤ (↑x_1 : Int) ∧ (↑x_1 : Int) < (↑(accU (hadT n s p q) n.toNat x).length : Int) ∧ True) ∧ (decide ((↑x_1 : Int) = p) = false → True))) ∧ ((bif !decide ((↑x_1 : Int) = p) then !decide (List.getD ((nowT n s p q v).getD (0 : Nat) va0).fst (↑x_1 : Int).toNat (0 : Int) = (accU (hadT n s p q) n.toNat x).getD (↑x_1 : Int).toNat (0 : Int)) || decide ((↑x_1 : Int) = p) && decide (List.getD ((nowT n s p q v).getD (0 : Nat) va0).fst (↑x_1 : Int).toNat (0 : Int) ≤ (accU (hadT n s p q) n.toNat x).getD (↑x_1 : Int).toNat (0 : Int)) else decide ((↑x_1 : Int) = p) && decide (List.getD ((nowT n s p q v).getD (0 : Nat) va0).fst (↑x_1 : Int).toNat (0 : Int) ≤ (accU (hadT n s p q) n.toNat x).getD (↑x_1 : Int).toNat (0 : Int))) = true → k [Dat.mk Ty.bool false]) ∧ ((bif !decide ((↑x_1 : Int) = p) then !decide (List.getD ((nowT n s p q v).getD (0 : Nat) va0).fst (↑x_1 : Int).toNat (0 : Int) = (accU (hadT n s p q) n.toNat x).getD (↑x_1 : Int).toNat (0 : Int)) || decide ((↑x_1 : Int) = p) && decide (List.getD ((nowT n s p q v).getD (0 : Nat) va0).fst (↑x_1 : Int).toNat (0 : Int) ≤ (accU (hadT n s p q) n.toNat x).getD (↑x_1 : Int).toNat (0 : Int)) else decide ((↑x_1 : Int) = p) && decide (List.getD ((nowT n s p q v).getD (0 : Nat) va0).fst (↑x_1 : Int).toNat (0 : Int) ≤ (accU (hadT n s p q) n.toNat x).getD (↑x_1 : Int).toNat (0 : Int))) = false → inK IntKind.i64 ((↑x_1 : Int) + (1 : Int)) ∧ ∃ (x_2 : Nat), (x_2 ≤ n.toNat ∧ inB n (1 : Int) (5 : Int) = true ∧ writeE (playN n s (50 : Nat)) p q v = (0 : Int)) ∧ n.toNat - x_2 < n.toNat - x_1 ∧ (n = n ∧ p = p ∧ True ∧ accU (hadT n s p q) n.toNat x = accU (hadT n s p q) n.toNat x ∧ (↑x_1 : Int) + (1 : Int) = (↑x_2 : Int) ∧ True) ∧ (((52 : Nat) = (52 : Nat) ∧ nowT n s p q v = nowT n s p q v) ∧ True) ∧ True)) ∧ (decide ((↑x_1 : Int) < n) = false → k [Dat.mk Ty.bool true]))))))))) ∧ (decide ((↑x : Int) < (↑s.length : Int)) = false → NetLen ((playF n.toNat s x).fst, (playF n.toNat s x).snd.fst, ()) ∧ NetSh ((playF n.toNat s x).fst, (playF n.toNat s x).snd.fst, ()) ∧ ((!decide (writeE ((playF n.toNat s x).fst, (playF n.toNat s x).snd.fst, ()) p q v = (0 : Int))) = true → k [Dat.mk Ty.bool true]) ∧ ((!decide (writeE ((playF n.toNat s x).fst, (playF n.toNat s x).snd.fst, ()) p q v = (0 : Int))) = false → NetLen ((writeT ((playF n.toNat s x).fst, (playF n.toNat s x).snd.fst, ()) p q v).fst, (writeT ((playF n.toNat s x).fst, (playF n.toNat s x).snd.fst, ()) p q v).snd.fst, ()) ∧ ((!decide ((↑(readF ((writeT ((playF n.toNat s x).fst, (playF n.toNat s x).snd.fst, ()) p q v).fst, (writeT ((playF n.toNat s x).fst, (playF n.toNat s x).snd.fst, ()) p q v).snd.fst, ()) p q).length : Int) = (1 : Int))) = true → k [Dat.mk Ty.bool false]) ∧ ((!decide ((↑(readF ((writeT ((playF n.toNat s x).fst, (playF n.toNat s x).snd.fst, ()) p q v).fst, (writeT ((playF n.toNat s x).fst, (playF n.toNat s x).snd.fst, ()) p q v).snd.fst, ()) p q).length : Int) = (1 : Int))) = false → (decide (p < (0 : Int)) = true → k [Dat.mk Ty.bool false]) ∧ (decide (p < (0 : Int)) = false → (decide (n ≤ p) = true → k [Dat.mk Ty.bool false]) ∧ (decide (n ≤ p) = false → (0 : Int) ≤ (0 : Int) ∧ (0 : Int) < (↑(readF ((writeT ((playF n.toNat s x).fst, (playF n.toNat s x).snd.fst, ()) p q v).fst, (writeT ((playF n.toNat s x).fst, (playF n.toNat s x).snd.fst, ()) p q v).snd.fst, ()) p q).length : Int) ∧ ((!decide ((↑(List.length ((readF ((writeT ((playF n.toNat s x).fst, (playF n.toNat s x).snd.fst, ()) p q v).fst, (writeT ((playF n.toNat s x).fst, (playF n.toNat s x).snd.fst, ()) p q v).snd.fst, ()) p q).getD (0 : Nat) va0).fst) : Int) = n)) = true → k [Dat.mk Ty.bool false]) ∧ ((!decide ((↑(List.length ((readF ((writeT ((playF n.toNat s x).fst, (playF n.toNat s x).snd.fst, ()) p q v).fst, (writeT ((playF n.toNat s x).fst, (playF n.toNat s x).snd.fst, ()) p q v).snd.fst, ()) p q).getD (0 : Nat) va0).fst) : Int) = n)) = false → (0 : Int) ≤ n ∧ n ≤ n ∧ n ≤ (1000000000 : Int) ∧ (∃ (x_1 : Nat), (x_1 ≤ (hadT n s p q).length ∧ inB n (1 : Int) (5 : Int) = true ∧ writeE (playN n s (50 : Nat)) p q v = (0 : Int)) ∧ (n = n ∧ p = p ∧ True ∧ True ∧ List.replicate n.toNat (0 : Int) = accU (hadT n s p q) n.toNat x_1 ∧ (0 : Int) = (↑x_1 : Int) ∧ True) ∧ (((52 : Nat) = (52 : Nat) ∧ readF ((playF n.toNat s x).fst, (playF n.toNat s x).snd.fst, ()) p q = hadT n s p q) ∧ ((52 : Nat) = (52 : Nat) ∧ readF ((writeT ((playF n.toNat s x).fst, (playF n.toNat s x).snd.fst, ()) p q v).fst, (writeT ((playF n.toNat s x).fst, (playF n.toNat s x).snd.fst, ()) p q v).snd.fst, ()) p q = nowT n s p q v) ∧ True) ∧ True) ∧ ∀ (x : Nat), x ≤ (hadT n s p q).length ∧ inB n (1 : Int) (5 : Int) = true ∧ writeE (playN n s (50 : Nat)) p q v = (0 : Int) → (decide ((↑x : Int) < (↑(hadT n s p q).length : Int)) = true → (0 : Int) ≤ (↑x : Int) ∧ (↑x : Int) < (↑(hadT n s p q).length : Int) ∧ True ∧ ((!decide (mostE (accU (hadT n s p q) n.toNat x) ((hadT n s p q).getD (↑x : Int).toNat va0).fst = (0 : Int))) = true → k [Dat.mk Ty.bool false]) ∧ ((!decide (mostE (accU (hadT n s p q) n.toNat x) ((hadT n s p q).getD (↑x : Int).toNat va0).fst = (0 : Int))) = false → inK IntKind.i64 ((↑x : Int) + (1 : Int)) ∧ ∃ (x_1 : Nat), (x_1 ≤ (hadT n s p q).length ∧ inB n (1 : Int) (5 : Int) = true ∧ writeE (playN n s (50 : Nat)) p q v = (0 : Int)) ∧ (hadT n s p q).length - x_1 < (hadT n s p q).length - x ∧ (n = n ∧ p = p ∧ True ∧ True ∧ mostR (accU (hadT n s p q) n.toNat x) ((hadT n s p q).getD (↑x : Int).toNat va0).fst = accU (hadT n s p q) n.toNat x_1 ∧ (↑x : Int) + (1 : Int) = (↑x_1 : Int) ∧ True) ∧ (((52 : Nat) = (52 : Nat) ∧ hadT n s p q = hadT n s p q) ∧ ((52 : Nat) = (52 : Nat) ∧ nowT n s p q v = nowT n s p q v) ∧ True) ∧ True)) ∧ (decide ((↑x : Int) < (↑(hadT n s p q).length : Int)) = false → (∃ (x_1 : Nat), (x_1 ≤ n.toNat ∧ inB n (1 : Int) (5 : Int) = true ∧ writeE (playN n s (50 : Nat)) p q v = (0 : Int)) ∧ (n = n ∧ p = p ∧ True ∧ accU (hadT n s p q) n.toNat x = accU (hadT n s p q) n.toNat x ∧ (0 : Int) = (↑x_1 : Int) ∧ True) ∧ (((52 : Nat) = (52 : Nat) ∧ nowT n s p q v = nowT n s p q v) ∧ True) ∧ True) ∧ ∀ (x_1 : Nat), x_1 ≤ n.toNat ∧ inB n (1 : Int) (5 : Int) = true ∧ writeE (playN n s (50 : Nat)) p q v = (0 : Int) → (decide ((↑x_1 : Int) < n) = true → (((!decide ((↑x_1 : Int) = p)) = true → (0 : Int) ≤ (0 : Int) ∧ (0 : Int) < (↑(nowT n s p q v).length : Int) ∧ (0 : Int) ≤ (↑x_1 : Int) ∧ (↑x_1 : Int) < (↑(List.length ((nowT n s p q v).getD (0 : Nat) va0).fst) : Int) ∧ (0 : Int) ≤ (↑x_1 : Int) ∧ (↑x_1 : Int) < (↑(accU (hadT n s p q) n.toNat x).length : Int) ∧ ((!decide (List.getD ((nowT n s p q v).getD (0 : Nat) va0).fst (↑x_1 : Int).toNat (0 : Int) = (accU (hadT n s p q) n.toNat x).getD (↑x_1 : Int).toNat (0 : Int))) = true → True) ∧ ((!decide (List.getD ((nowT n s p q v).getD (0 : Nat) va0).fst (↑x_1 : Int).toNat (0 : Int) = (accU (hadT n s p q) n.toNat x).getD (↑x_1 : Int).toNat (0 : Int))) = false → (decide ((↑x_1 : Int) = p) = true → (0 : Int) ≤ (0 : Int) ∧ (0 : Int) < (↑(nowT n s p q v).length : Int) ∧ (0 : Int) ≤ (↑x_1 : Int) ∧ (↑x_1 : Int) < (↑(List.length ((nowT n s p q v).getD (0 : Nat) va0).fst) : Int) ∧ (0 : Int) ≤ (↑x_1 : Int) ∧ (↑x_1 : Int) < (↑(accU (hadT n s p q) n.toNat x).length : Int) ∧ True) ∧ (decide ((↑x_1 : Int) = p) = false → True))) ∧ ((!decide ((↑x_1 : Int) = p)) = false → (decide ((↑x_1 : Int) = p) = true → (0 : Int) ≤ (0 : Int) ∧ (0 : Int) < (↑(nowT n s p q v).length : Int) ∧ (0 : Int) ≤ (↑x_1 : Int) ∧ (↑x_1 : Int) < (↑(List.length ((nowT n s p q v).getD (0 : Nat) va0).fst) : Int) ∧ (0 : Int) ≤ (↑x_1 : Int) ∧ (↑x_1 : Int) < (↑(accU (hadT n s p q) n.toNat x).length : Int) ∧ True) ∧ (decide ((↑x_1 : Int) = p) = false → True))) ∧ ((bif !decide ((↑x_1 : Int) = p) then !decide (List.getD ((nowT n s p q v).getD (0 : Nat) va0).fst (↑x_1 : Int).toNat (0 : Int) = (accU (hadT n s p q) n.toNat x).getD (↑x_1 : Int).toNat (0 : Int)) || decide ((↑x_1 : Int) = p) && decide (List.getD ((nowT n s p q v).getD (0 : Nat) va0).fst (↑x_1 : Int).toNat (0 : Int) ≤ (accU (hadT n s p q) n.toNat x).getD (↑x_1 : Int).toNat (0 : Int)) else decide ((↑x_1 : Int) = p) && decide (List.getD ((nowT n s p q v).getD (0 : Nat) va0).fst (↑x_1 : Int).toNat (0 : Int) ≤ (accU (hadT n s p q) n.toNat x).getD (↑x_1 : Int).toNat (0 : Int))) = true → k [Dat.mk Ty.bool false]) ∧ ((bif !decide ((↑x_1 : Int) = p) then !decide (List.getD ((nowT n s p q v).getD (0 : Nat) va0).fst (↑x_1 : Int).toNat (0 : Int) = (accU (hadT n s p q) n.toNat x).getD (↑x_1 : Int).toNat (0 : Int)) || decide ((↑x_1 : Int) = p) && decide (List.getD ((nowT n s p q v).getD (0 : Nat) va0).fst (↑x_1 : Int).toNat (0 : Int) ≤ (accU (hadT n s p q) n.toNat x).getD (↑x_1 : Int).toNat (0 : Int)) else decide ((↑x_1 : Int) = p) && decide (List.getD ((nowT n s p q v).getD (0 : Nat) va0).fst (↑x_1 : Int).toNat (0 : Int) ≤ (accU (hadT n s p q) n.toNat x).getD (↑x_1 : Int).toNat (0 : Int))) = false → inK IntKind.i64 ((↑x_1 : Int) + (1 : Int)) ∧ ∃ (x_2 : Nat), (x_2 ≤ n.toNat ∧ inB n (1 : Int) (5 : Int) = true ∧ writeE (playN n s (50 : Nat)) p q v = (0 : Int)) ∧ n.toNat - x_2 < n.toNat - x_1 ∧ (n = n ∧ p = p ∧ True ∧ accU (hadT n s p q) n.toNat x = accU (hadT n s p q) n.toNat x ∧ (↑x_1 : Int) + (1 : Int) = (↑x_2 : Int) ∧ True) ∧ (((52 : Nat) = (52 : Nat) ∧ nowT n s p q v = nowT n s p q v) ∧ True) ∧ True)) ∧ (decide ((↑x_1 : Int) < n) = false → k [Dat.mk Ty.bool true]))))))))))))) := by kernel_rfl
end Go.Proofs.Ytgcliogognkdkaa

/- Nets: the laws hold. -/
namespace Go.Proofs.Ytgcliogognkdkaa
open Go.Vc Go.Proofs

theorem wrF_succ (s : List (List Int)) (k x : Int) (i : Nat) : wrF s k x (i + 1) = (wrF s k x i || (decide ((s.getD i []).length = 3) && (decide ((s.getD i []).getD 1 0 = k) && decide ((s.getD i []).getD 2 0 = x)))) := rfl
theorem wrF_iff {s : List (List Int)} {k x : Int} : ∀ m, wrF s k x m = true ↔ ∃ i, i < m ∧ (s.getD i []).length = 3 ∧ (s.getD i []).getD 1 0 = k ∧ (s.getD i []).getD 2 0 = x
  | 0 => by simp [wrF]
  | m + 1 => by
    unfold wrF
    rw [Bool.or_eq_true, wrF_iff m, Bool.and_eq_true, Bool.and_eq_true, decide_eq_true_eq, decide_eq_true_eq, decide_eq_true_eq]
    constructor
    · rintro (⟨i, h1, h2⟩ | h)
      · exact ⟨i, by omega, h2⟩
      · exact ⟨m, by omega, h⟩
    · rintro ⟨i, h1, h2⟩
      by_cases e : i = m
      · subst e; exact .inr h2
      · exact .inl ⟨i, by omega, h2⟩
section
variable {n : Nat} {W : Nat → Int → Prop} {H : Nat → Nat → Va → Prop} {t : Net}
theorem rd_cases (t : Net) (p q : Int) : (inNet t p q = true ∧ readF t p q = vAt t p.toNat q.toNat) ∨ readF t p q = [] := by
  unfold readF
  by_cases h : inNet t p q = true
  · rw [if_pos h]; exact .inl ⟨h, rfl⟩
  · rw [if_neg h]; exact .inr rfl
theorem rd_few (I : NInv n W H t) (p q : Int) : (readF t p q).length ≤ n := by
  rcases rd_cases t p q with ⟨-, e⟩ | e
  · rw [e]; exact I.few _ _
  · rw [e]; exact Nat.zero_le _
theorem rd_len (I : NInv n W H t) {p q : Int} {v : Va} (h : v ∈ readF t p q) : v.1.length = n := by
  rcases rd_cases t p q with ⟨-, e⟩ | e
  · rw [e] at h; exact I.ln h
  · rw [e] at h; cases h
theorem rd_anti (I : NInv n W H t) {p q : Int} {i j : Nat} (hi : i < (readF t p q).length) (hj : j < (readF t p q).length) (hij : i ≠ j) : sawF ((readF t p q).getD i va0).1 ((readF t p q).getD j va0).1 n = false := by
  have h1 := getD_memL (d := va0) hi
  have h2 := getD_memL (d := va0) hj
  cases hq : sawF ((readF t p q).getD i va0).1 ((readF t p q).getD j va0).1 n with
  | false => rfl
  | true =>
    exfalso
    have hs : sawB ((readF t p q).getD i va0) ((readF t p q).getD j va0) = true := by unfold sawB; rw [rd_len I h1]; exact hq
    rcases rd_cases t p q with ⟨-, e⟩ | e
    · rw [e] at h1 h2 hs hi hj
      have he := I.anti _ _ _ _ h1 h2 hs
      have hsv := I.sv p.toNat q.toNat
      rw [List.getD_eq_getElem?_getD, List.getD_eq_getElem?_getD, List.getElem?_eq_getElem hi, List.getElem?_eq_getElem hj] at he
      simp only [Option.getD_some] at he
      have irr : ∀ v : Va, ¬ lexL v.1 v.1 < 0 := fun v => by rw [lexL_zero.2 rfl]; decide
      rcases Nat.lt_or_gt_of_ne hij with h | h
      · have := List.pairwise_iff_getElem.1 hsv i j hi hj h
        rw [he] at this; exact irr _ this
      · have := List.pairwise_iff_getElem.1 hsv j i hj hi h
        rw [he] at this; exact irr _ this
    · rw [e] at hi; exact absurd hi (by simp)
end
theorem rd_writ {n : Int} (hb : inB n 1 5 = true) {s : List (List Int)} {p q : Int} {v : Va} (h : v ∈ rdP n s p q) : wrF s q v.2.1 (min s.length 60) = true := by
  obtain ⟨H, I⟩ := playN_inv hb s (Nat.le_refl 60)
  unfold rdP at h
  rcases rd_cases (playN n s 60) p q with ⟨hin, e⟩ | e
  · rw [e] at h
    obtain ⟨p', hp'⟩ := I.mem _ _ _ h
    obtain ⟨i, h1, h2, h3, h4, h5⟩ := I.hW _ _ _ hp'
    have := (inNet_iff.1 hin).2.1
    exact (wrF_iff _).2 ⟨i, by omega, h3, by rw [h4]; omega, h5⟩
  · rw [e] at h; cases h
theorem inB_no {n : Int} (h : inB n 1 5 = false) : ¬ n < 1 → decide (5 < n) = true := by
  unfold inB at h
  intro h1
  rw [decide_eq_true_eq]
  by_cases h5 : 5 < n
  · exact h5
  · rw [Bool.and_eq_false_iff, decide_eq_false_iff_not, decide_eq_false_iff_not] at h; omega
theorem lawGA_vc (n : Int) (s : List (List Int)) (p q : Int) (hml : s.length ≤ maxLen) (k : List Dat → Prop) (hk : k [⟨.bool, true⟩]) :
    vcF ⟨Eg, [(22, cFactG)], [], [], [(23, oPlayed), (24, oRead)]⟩ (anApart n s p q) (Try.f6.body.getD .skip) Try.f6.ntmps [(.tmp 8, .bool)] [⟨I, n⟩, ⟨.sl (.sl I), s⟩, ⟨I, p⟩, ⟨I, q⟩] k := by
  rw [vcLawGA]
  have hmx : maxLen ≤ 9223372036854775807 := by decide
  have i1 : Int.toNat 1 = 1 := rfl
  have i2 : Int.toNat 2 = 2 := rfl
  have er : readF (playN n s 60) p q = rdP n s p q := rfl
  have ret : ∀ x : Bool, x = true → k [⟨.bool, x⟩] := by rintro _ rfl; exact hk
  simp only [i1, i2, er, net_eta, decide_eq_true_eq, decide_eq_false_iff_not, Int.toNat_natCast, inK_i64, true_and, and_true, decide_true, decide_false, Bool.not_true, Bool.not_false, Bool.true_eq_false, Bool.false_eq_true, false_implies, forall_const, and_false, false_and, Bool.not_eq_true', Bool.not_eq_false']
  refine ⟨fun hb => ⟨fun _ => hk, fun h1 => ret _ (inB_no hb h1)⟩, fun hb => ?_⟩
  obtain ⟨H, J⟩ := playN_inv hb s (Nat.le_refl 60)
  obtain ⟨n1, n5, -, -⟩ := inB5 hb
  have hn : ((n.toNat : Nat) : Int) = n := by omega
  have hfew : (rdP n s p q).length ≤ n.toNat := rd_few J p q
  have hlen : ∀ i, i < (rdP n s p q).length → ((rdP n s p q).getD i va0).1.length = n.toNat := fun i hi => rd_len J (getD_memL hi)
  refine ⟨J.nlen, fun h => absurd h (by omega), fun _ => ⟨⟨0, ⟨Nat.zero_le _, hb⟩, rfl⟩, fun x ⟨hx, _⟩ => ⟨fun hlt => ?_, fun hge => hk⟩⟩⟩
  have hxl : x < (rdP n s p q).length := by omega
  have hxn := hlen x hxl
  refine ⟨by omega, hlt, fun h => absurd h (by omega), fun _ => ⟨⟨0, ⟨Nat.zero_le _, hb⟩, rfl⟩, fun y ⟨hy, _⟩ => ⟨fun hly => ⟨fun he => ⟨by omega, y + 1, ⟨by omega, hb⟩, by omega, by omega⟩, fun he => ?_⟩, fun hgy => ?_⟩⟩⟩
  · have hyl : y < (rdP n s p q).length := by omega
    have hyn := hlen y hyl
    have hno := rd_anti J (p := p) (q := q) (i := x) (j := y) hxl hyl (by omega)
    rw [er] at hno
    refine ⟨by omega, hly, ⟨0, ⟨Nat.zero_le _, hb⟩, by rw [decide_eq_true (by omega)]; rfl, rfl⟩, fun z ⟨hz, _⟩ => ⟨fun hlz => ⟨fun hs => ⟨⟨by omega, hlt, by omega, by omega, by omega, hly, by omega, by omega⟩, by omega, z + 1, ⟨by omega, hb⟩, by omega, by unfold sawF; rw [hs]; rfl, by omega⟩, fun hs => ⟨fun h => absurd h (by rw [hs]; decide), fun _ => ⟨by omega, y + 1, ⟨by omega, hb⟩, by omega, by omega⟩⟩⟩, fun hgz => ?_⟩⟩
    have : z = n.toNat := by omega
    subst this
    exact ⟨fun h => absurd h (by rw [hno]; decide), fun _ => ⟨by omega, y + 1, ⟨by omega, hb⟩, by omega, by omega⟩⟩
  · refine ⟨⟨0, ⟨⟨Nat.zero_le _, Nat.zero_le _⟩, hb⟩, rfl, rfl⟩, fun z ⟨⟨hz, hz60⟩, _⟩ => ?_⟩
    have hfin : z = min s.length 60 → wrF s q ((rdP n s p q).getD x va0).2.1 z = true := fun e => by rw [e]; exact rd_writ hb (getD_memL hxl)
    have hend : z = min s.length 60 → (wrF s q ((rdP n s p q).getD x va0).2.1 z = false → k [⟨.bool, false⟩]) ∧ (wrF s q ((rdP n s p q).getD x va0).2.1 z = true → (-9223372036854775808 ≤ (x : Int) + 1 ∧ (x : Int) + 1 ≤ 9223372036854775807) ∧ ∃ x_3, (x_3 ≤ (rdP n s p q).length ∧ inB n 1 5 = true) ∧ (rdP n s p q).length - x_3 < (rdP n s p q).length - x ∧ (x : Int) + 1 = (x_3 : Int)) := fun e =>
      ⟨fun h => absurd h (by rw [hfin e]; decide), fun _ => ⟨by omega, x + 1, ⟨by omega, hb⟩, by omega, by omega⟩⟩
    refine ⟨fun hlz => ⟨fun hlz60 => ⟨?_, by omega, z + 1, ⟨⟨by omega, by omega⟩, hb⟩, by omega, ?_, by omega⟩, fun hg => hend (by omega)⟩, fun hg => hend (by omega)⟩
    · exact ⟨fun _ => trivial, fun _ => ⟨by omega, hlz, fun h3 => ⟨by omega, hlz, by omega, by omega, fun _ => ⟨by omega, hlz, by omega, by omega, by omega, hlt⟩, fun _ => trivial⟩, fun _ => trivial⟩⟩
    · rw [wrF_succ]
      have : decide ((((s.getD z []).length : Nat) : Int) = 3) = decide ((s.getD z []).length = 3) := by
        by_cases h : (s.getD z []).length = 3
        · rw [decide_eq_true h, decide_eq_true (by omega)]
        · rw [decide_eq_false h, decide_eq_false (by omega)]
      rw [this]
theorem okLawGA : PlainOk Try.prog [] 6 cLawGA := by
  refine plain_of (CxOk.mk' Eg_ok (by kernel_rfl) mixed (gl := []) (GOk.cons okFactG Try.func22 (by kernel_rfl) (by kernel_rfl) GOk.nil) (GoOk.cons ownPlayed Try.func23 (by kernel_rfl) (by kernel_rfl) (GoOk.cons ownRead Try.func24 (by kernel_rfl) (by kernel_rfl) GoOk.nil)) noIt) Try.func6 (c := Try.f6.body.getD .skip) (rvs := [(.tmp 8, .bool)]) (by kernel_rfl) (by kernel_rfl) (by kernel_rfl) ?_
  intro ds k ⟨hp, hk⟩ hwf
  obtain ⟨n, s, p, q, rfl, -⟩ := dest4 hp
  exact ⟨anApart n s p q, lawGA_vc n s p q (wf4 hwf).2.1.1 k hk⟩
end Go.Proofs.Ytgcliogognkdkaa

/- Nets: the law that all have the same, its loops. -/
namespace Go.Proofs.Ytgcliogognkdkaa
open Go.Vc
def dnI (n : Int) (m : Nat) : Int := n - 1 - (m : Int)
/-- whose turn it is, back to how many had it -/
def upI (n p : Int) : Nat := (n - 1 - p).toNat
def anSameI (n : Int) (s : List (List Int)) (k : Int) : Ann := [joinAll,
  loopAt 11 Nat [] (fun st r => { St.at (St.only st [0, 2]) [(8, .ps 0), (10, .ps 3), (12, .d I (r : Int))] with ob := obTwo (ar2 n s) (dnU n s r) }) (fun _ r => r ≤ 2 ∧ inB n 1 5 = true) (fun r => 2 - r),
  loopAt 14 Nat [] (fun st m => { St.at (St.only st [0, 2, 8, 10, 12]) [(13, .d I (dnI n m))] with ob := obTwo (ar2 n s) (dnP n.toNat (dnU n s (st.i 12).toNat) m) }) (fun _ m => m ≤ n.toNat ∧ inB n 1 5 = true) (fun m => n.toNat - m),
  loopAt 17 Nat [] (fun st q => { St.at (St.only st [0, 2, 8, 10, 12, 13]) [(14, .d I (q : Int))] with ob := obTwo (ar2 n s) (arQ (st.i 13).toNat (dnP n.toNat (dnU n s (st.i 12).toNat) (upI n (st.i 13))) q) }) (fun _ q => q ≤ n.toNat ∧ inB n 1 5 = true) (fun q => n.toNat - q),
  loopAt 23 Nat [] (fun st q => { St.at (St.only st [0, 2]) [(8, .ps 0), (10, .ps 3), (15, .os 6), (16, .d I (q : Int))] with ob := obTwo (ar2 n s) (dnU n s 2) ++ [.row 52 tV (readF (ar2 n s) 0 k)] }) (fun _ q => q ≤ n.toNat ∧ inB n 1 5 = true) (fun q => n.toNat - q)]
end Go.Proofs.Ytgcliogognkdkaa
