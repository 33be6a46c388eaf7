/- Own texts, merged: GM2, GDef3, GV3, GIr, GVF, GOk3, BV2, BOk2, BOk3, GLawM, GDef6, GV6, GLaw4. -/
import Derived.Test.YtgcliogognkdkaaTMRowZ1
/- Nets: what holds of all that is written and told. -/
namespace Go.Proofs.Ytgcliogognkdkaa
open Go.Vc

/-! Of values that are joined the greatest are left. -/
def sumS : List Int → Int
  | [] => 0
  | x :: l => x + sumS l
theorem sumS_le : ∀ {a b : List Int}, a.length = b.length → (∀ i, i < a.length → a.getD i 0 ≤ b.getD i 0) → sumS a ≤ sumS b ∧ (sumS b ≤ sumS a → a = b)
  | [], [], _, _ => ⟨Int.le_refl _, fun _ => rfl⟩
  | [], _ :: _, h, _ => by simp at h
  | _ :: _, [], h, _ => by simp at h
  | x :: a, y :: b, h, hp => by
    have h0 : x ≤ y := by simpa using hp 0 (by simp)
    have ih := sumS_le (a := a) (b := b) (by simpa using h) fun i hi => by simpa using hp (i + 1) (by simp; omega)
    unfold sumS
    refine ⟨by omega, fun hs => ?_⟩
    have : x = y := by omega
    rw [this, ih.2 (by omega)]
theorem saw_sum {v w : Va} (hl : v.1.length = w.1.length) (h : sawB w v = true) : sumS v.1 ≤ sumS w.1 ∧ (sumS w.1 ≤ sumS v.1 → v.1 = w.1) :=
  sumS_le hl fun i hi => sawB_all.1 h i (by omega)
theorem ex_max {α : Type} (f : α → Int) : ∀ (l : List α), l ≠ [] → ∃ m ∈ l, ∀ x ∈ l, f x ≤ f m
  | [], h => absurd rfl h
  | [a], _ => ⟨a, by simp, fun x hx => by rw [List.mem_singleton] at hx; subst hx; exact Int.le_refl _⟩
  | a :: b :: l, _ => by
    obtain ⟨m, hm, h⟩ := ex_max f (b :: l) (by simp)
    by_cases hc : f m ≤ f a
    · refine ⟨a, List.mem_cons_self .., fun x hx => ?_⟩
      rcases List.mem_cons.1 hx with e | e
      · subst e; exact Int.le_refl _
      · exact Int.le_trans (h x e) hc
    · refine ⟨m, List.mem_cons_of_mem _ hm, fun x hx => ?_⟩
      rcases List.mem_cons.1 hx with e | e
      · subst e; omega
      · exact h x e
theorem dom_mrg {n : Nat} {all : List Va} (hn : ∀ v ∈ all, v.1.length = n) (hF : ∀ v ∈ all, ∀ w ∈ all, v.1 = w.1 → v = w) {v : Va} (hv : v ∈ all) : ∃ w ∈ mrgV all, sawB w v = true := by
  obtain ⟨m, hm, hmax⟩ := ex_max (fun x : Va => sumS x.1) (all.filter fun w => sawB w v) (fun e => by
    have : v ∈ all.filter fun w => sawB w v := List.mem_filter.2 ⟨hv, saw_refl v⟩
    rw [e] at this; cases this)
  obtain ⟨hma, hms⟩ := List.mem_filter.1 hm
  refine ⟨m, (mem_mrgV hn hF).2 ⟨hma, fun x hx hs => ?_⟩, hms⟩
  have hxv := saw_trans (by rw [hn x hx, hn m hma]; exact Nat.le_refl _) hs hms
  have h1 := hmax x (List.mem_filter.2 ⟨hx, hxv⟩)
  exact hF x hx m hma ((saw_sum (by rw [hn x hx, hn m hma]) hs).2 h1).symm

/-! What a write has seen. -/
theorem maxU_get (cur s : List Int) {q : Nat} (hq : q < cur.length) : ∀ j, (maxU cur s j).getD q 0 = if q < j then max (cur.getD q 0) (s.getD q 0) else cur.getD q 0
  | 0 => by rw [if_neg (by omega)]; rfl
  | j + 1 => by
    have ih := fun {q} (hq : q < cur.length) => maxU_get cur s hq j
    unfold maxU
    by_cases hj : j < cur.length
    · rw [getD_setL _ _ _ _ _ (by rw [maxU_len]; exact hj), ih hj, if_neg (Nat.lt_irrefl _)]
      by_cases e : q = j
      · subst e; rw [if_pos rfl, if_pos (by omega)]
      · rw [if_neg e, ih hq]
        by_cases h : q < j
        · rw [if_pos h, if_pos (by omega)]
        · rw [if_neg h, if_neg (by omega)]
    · rw [List.set_eq_of_length_le (by rw [maxU_len]; omega), ih hq, if_pos (by omega), if_pos (by omega)]
theorem accU_succ {vals : List Va} {n : Nat} (hn : ∀ v ∈ vals, v.1.length = n) {q i : Nat} (hq : q < n) (hi : i < vals.length) : (accU vals n (i + 1)).getD q 0 = max ((accU vals n i).getD q 0) ((vals.getD i va0).1.getD q 0) := by
  show (maxU (accU vals n i) (vals.getD i va0).1 (vals.getD i va0).1.length).getD q 0 = _
  rw [maxU_get _ _ (by rw [accU_len]; exact hq), if_pos (by rw [hn _ (getD_memL hi)]; exact hq)]
theorem accU_ge {vals : List Va} {n : Nat} (hn : ∀ v ∈ vals, v.1.length = n) {q : Nat} (hq : q < n) : ∀ i, i ≤ vals.length → 0 ≤ (accU vals n i).getD q 0 ∧ ∀ j, j < i → (vals.getD j va0).1.getD q 0 ≤ (accU vals n i).getD q 0
  | 0, _ => by
    refine ⟨?_, fun j hj => by omega⟩
    unfold accU
    rw [List.getD_eq_getElem?_getD, List.getElem?_replicate, if_pos hq]; exact Int.le_refl _
  | i + 1, hi => by
    obtain ⟨h1, h2⟩ := accU_ge hn hq i (by omega)
    rw [accU_succ hn hq (by omega)]
    refine ⟨by omega, fun j hj => ?_⟩
    by_cases e : j = i
    · subst e; omega
    · have := h2 j (by omega); omega
theorem accU_at {vals : List Va} {n : Nat} (hn : ∀ v ∈ vals, v.1.length = n) {q : Nat} (hq : q < n) : ∀ i, i ≤ vals.length → (accU vals n i).getD q 0 = 0 ∨ ∃ v ∈ vals, v.1.getD q 0 = (accU vals n i).getD q 0
  | 0, _ => by
    refine .inl ?_
    unfold accU
    rw [List.getD_eq_getElem?_getD, List.getElem?_replicate, if_pos hq]; rfl
  | i + 1, hi => by
    rw [accU_succ hn hq (by omega)]
    rcases Int.le_total ((accU vals n i).getD q 0) ((vals.getD i va0).1.getD q 0) with h | h
    · exact .inr ⟨_, getD_memL (d := va0) (i := i) (by omega), by omega⟩
    · rw [Int.max_eq_left h]; exact accU_at hn hq i (by omega)
theorem accU_mem {vals : List Va} {n : Nat} (hn : ∀ v ∈ vals, v.1.length = n) {q : Nat} (hq : q < n) {v : Va} (hv : v ∈ vals) : v.1.getD q 0 ≤ (accU vals n vals.length).getD q 0 := by
  obtain ⟨j, hj⟩ := List.getElem?_of_mem hv
  have hjl := (List.getElem?_eq_some_iff.1 hj).1
  have := (accU_ge hn hq vals.length (Nat.le_refl _)).2 j hjl
  have ew : vals.getD j va0 = v := by rw [List.getD_eq_getElem?_getD, hj]; rfl
  rwa [ew] at this

/-! The invariant: H k p v says that the value was written by p, at some time, at the key. -/
structure NInv (n : Nat) (W : Nat → Int → Prop) (H : Nat → Nat → Va → Prop) (t : Net) : Prop where
  len : t.1.length = n
  lo : 1 ≤ n
  hi : n ≤ 5
  wr : t.2.1.length = n
  row : ∀ r ∈ t.1, List.length r = 4
  cnt : ∀ i, i < n → 0 ≤ t.2.1.getD i 0 ∧ t.2.1.getD i 0 ≤ 60
  mem : ∀ i k v, v ∈ vAt t i k → ∃ p, H k p v
  sv : ∀ i k, SV' (vAt t i k)
  anti : ∀ i k v w, v ∈ vAt t i k → w ∈ vAt t i k → sawB v w = true → v = w
  hp : ∀ k p v, H k p v → p < n ∧ 1 ≤ v.1.getD p 0
  hl : ∀ k p v, H k p v → v.1.length = n
  hb : ∀ k p v, H k p v → ∀ q, q < n → 0 ≤ v.1.getD q 0 ∧ v.1.getD q 0 ≤ t.2.1.getD q 0
  hW : ∀ k p v, H k p v → W k v.2.1
  hc : ∀ k p v p' w, H k p v → H k p' w → v.1.getD p 0 ≤ w.1.getD p 0 → sawB w v = true
  hf : ∀ k p v p' w, H k p v → H k p' w → v.1 = w.1 → v = w
  hd : ∀ k p v, H k p v → ∃ w ∈ vAt t p k, sawB w v = true
section
variable {n : Nat} {W : Nat → Int → Prop} {H : Nat → Nat → Va → Prop} {t : Net}
theorem NInv.ln (I : NInv n W H t) {i k : Nat} {v : Va} (hv : v ∈ vAt t i k) : v.1.length = n := by
  obtain ⟨p, hp⟩ := I.mem i k v hv; exact I.hl k p v hp
theorem NInv.few (I : NInv n W H t) (i k : Nat) : (vAt t i k).length ≤ n := by
  have hw : ∃ f : Va → Nat, ∀ v ∈ vAt t i k, H k (f v) v := by
    refine ⟨fun v => if h : v ∈ vAt t i k then (I.mem i k v h).choose else 0, fun v hv => ?_⟩
    show H k (if h : v ∈ vAt t i k then (I.mem i k v h).choose else 0) v
    rw [dif_pos hv]; exact (I.mem i k v hv).choose_spec
  obtain ⟨f, hf⟩ := hw
  have hnd : ((vAt t i k).map f).Nodup := by
    refine List.pairwise_map.2 ((I.sv i k).imp_of_mem fun {a b} ha hb hab e => ?_)
    have h1 := hf a ha
    have h2 := hf b hb
    rw [← e] at h2
    have hne : a ≠ b := fun e => by subst e; rw [lexL_zero.2 rfl] at hab; exact absurd hab (by decide)
    rcases Int.le_total (a.1.getD (f a) 0) (b.1.getD (f a) 0) with hq | hq
    · exact hne (I.anti i k b a hb ha (I.hc k _ _ _ _ h1 h2 hq)).symm
    · exact hne (I.anti i k a b ha hb (I.hc k _ _ _ _ h2 h1 hq))
  have := hnd.length_le_of_subset (l₂ := List.range n) fun x hx => by
    obtain ⟨v, hv, rfl⟩ := List.mem_map.1 hx
    exact List.mem_range.2 (I.hp k _ v (hf v hv)).1
  rwa [List.length_map, List.length_range] at this
theorem mem_vAt (hr : ∀ r ∈ t.1, List.length r = 4) {r : List (List Va)} {l : List Va} (h1 : r ∈ t.1) (h2 : l ∈ r) : ∃ i k, l = vAt t i k := by
  obtain ⟨i, hi⟩ := List.getElem?_of_mem h1
  obtain ⟨k, hk⟩ := List.getElem?_of_mem h2
  refine ⟨i, k, ?_⟩
  unfold vAt
  rw [List.getD_eq_getElem?_getD (l := t.1), hi, Option.getD_some, List.getD_eq_getElem?_getD, hk, Option.getD_some]
theorem NInv.sh (I : NInv n W H t) : NetSh t where
  wr := by rw [I.wr, I.len]
  lo := by rw [I.len]; exact I.lo
  hi := by rw [I.len]; exact I.hi
  row := I.row
  len := fun r hr l hl => by
    obtain ⟨i, k, rfl⟩ := mem_vAt I.row hr hl
    have := I.few i k; have := I.hi; omega
  seen := fun r hr l hl v hv => by
    obtain ⟨i, k, rfl⟩ := mem_vAt I.row hr hl
    rw [I.ln hv, I.len]
  cnt := fun i hi => I.cnt i (by rw [← I.wr]; exact hi)
theorem NInv.nlen (I : NInv n W H t) : NetLen t :=
  ⟨fun r hr => ⟨I.row r hr, fun l hl => ⟨I.sh.len r hr l hl, fun v hv => by rw [I.sh.seen r hr l hl v hv, I.len]; have := I.hi; omega⟩⟩, by rw [I.len]; have := I.hi; omega⟩
theorem NInv.init (W : Nat → Int → Prop) (h1 : 1 ≤ n) (h5 : n ≤ 5) : NInv n W (fun _ _ _ => False) (newF n) := by
  have hv : ∀ i k, vAt (newF n) i k = [] := fun i k => by
    have hrow : (List.replicate n (List.replicate 4 ([] : List Va))).getD i (List.replicate 4 []) = List.replicate 4 [] := by
      rcases getD_memD (l := List.replicate n (List.replicate 4 ([] : List Va))) (i := i) (d := List.replicate 4 []) with h | ⟨h, -⟩
      · exact (List.mem_replicate.1 h).2
      · exact h
    unfold vAt newF
    rw [hrow]
    rcases getD_memD (l := (List.replicate 4 [] : List (List Va))) (i := k) (d := ([] : List Va)) with h2 | ⟨h2, -⟩
    · exact (List.mem_replicate.1 h2).2
    · exact h2
  exact {
    len := List.length_replicate, lo := h1, hi := h5, wr := List.length_replicate
    row := fun r hr => by rw [(List.mem_replicate.1 hr).2]; exact List.length_replicate
    cnt := fun i hi => by
      have e : (newF n).2.1.getD i 0 = 0 := by
        unfold newF
        rw [List.getD_eq_getElem?_getD, List.getElem?_replicate, if_pos hi]; rfl
      rw [e]; decide
    mem := fun i k v h => by rw [hv] at h; cases h
    sv := fun i k => by rw [hv]; exact List.Pairwise.nil
    anti := fun i k v w h => by rw [hv] at h; cases h
    hp := fun _ _ _ h => h.elim, hl := fun _ _ _ h => h.elim, hb := fun _ _ _ h => h.elim, hW := fun _ _ _ h => h.elim
    hc := fun _ _ _ _ _ h => h.elim, hf := fun _ _ _ _ _ h => h.elim, hd := fun _ _ _ h => h.elim }
theorem NInv.sync (I : NInv n W H t) (a b : Int) : NInv n W H (syncT t a b) := by
  unfold syncT
  by_cases hne : ¬ syncE t a b = 0
  · rw [if_neg hne]; exact I
  have h0 : syncE t a b = 0 := Decidable.of_not_not hne
  rw [if_pos h0]
  obtain ⟨ha, hb, hab⟩ : inNet t a 0 = true ∧ inNet t b 0 = true ∧ a ≠ b := by
    unfold syncE at h0
    cases ha : inNet t a 0 <;> cases hb : inNet t b 0 <;> simp [ha, hb] at h0
    exact ⟨rfl, rfl, h0⟩
  obtain ⟨⟨a0, a1⟩, -⟩ := inNet_iff.1 ha
  obtain ⟨⟨b0, b1⟩, -⟩ := inNet_iff.1 hb
  have hbl : b.toNat < t.1.length := by omega
  have hv := fun i j => vAt_sync I.row (a := a) (b := b) (by omega) hbl i j 4 (Nat.le_refl _)
  have hln : ∀ k, ∀ v ∈ vAt t b.toNat k ++ vAt t a.toNat k, v.1.length = n := fun k v h => (List.mem_append.1 h).elim (fun h => I.ln h) fun h => I.ln h
  have hmm : ∀ k, ∀ v ∈ vAt t b.toNat k ++ vAt t a.toNat k, ∃ p, H k p v := fun k v h => (List.mem_append.1 h).elim (fun h => I.mem _ _ _ h) fun h => I.mem _ _ _ h
  have hF : ∀ k, ∀ v ∈ vAt t b.toNat k ++ vAt t a.toNat k, ∀ w ∈ vAt t b.toNat k ++ vAt t a.toNat k, v.1 = w.1 → v = w := fun k v h w h' e => by
    obtain ⟨p, hp⟩ := hmm k v h
    obtain ⟨p', hp'⟩ := hmm k w h'
    exact I.hf k p v p' w hp hp' e
  exact {
    len := by rw [syncU_len]; exact I.len
    lo := I.lo, hi := I.hi
    wr := by rw [syncU_wr]; exact I.wr
    row := syncU_rows I.row hbl 4
    cnt := by rw [syncU_wr]; exact I.cnt
    mem := fun i k v h => by
      rw [hv] at h
      split at h
      · exact hmm k v ((mem_mrgV (hln k) (hF k)).1 h).1
      · exact I.mem i k v h
    sv := fun i k => by
      rw [hv]; split
      · exact ss_mrgV _
      · exact I.sv i k
    anti := fun i k v w h h' hs => by
      rw [hv] at h h'
      split at h
      · rename_i hc
        rw [if_pos hc] at h'
        exact ((mem_mrgV (hln k) (hF k)).1 h').2 v ((mem_mrgV (hln k) (hF k)).1 h).1 hs
      · rename_i hc
        rw [if_neg hc] at h'
        exact I.anti i k v w h h' hs
    hp := I.hp, hl := I.hl
    hb := by rw [syncU_wr]; exact I.hb
    hW := I.hW, hc := I.hc, hf := I.hf
    hd := fun k p v h => by
      obtain ⟨w, hw, hs⟩ := I.hd k p v h
      rw [hv]
      split
      · rename_i hc
        rw [hc.1] at hw
        obtain ⟨u, hu, hus⟩ := dom_mrg (hln k) (hF k) (List.mem_append_left _ hw)
        exact ⟨u, hu, saw_trans (by rw [hln k u ((mem_mrgV (hln k) (hF k)).1 hu).1, I.ln hw]; exact Nat.le_refl _) hus hs⟩
      · exact ⟨w, hw, hs⟩ }
theorem NInv.write (I : NInv n W H t) (p q v : Int) (hw : writeE t p q v = 0 → W q.toNat v) : ∃ H', NInv n W H' (writeT t p q v) := by
  unfold writeT
  by_cases hne : ¬ writeE t p q v = 0
  · rw [if_neg hne]; exact ⟨H, I⟩
  have h0 : writeE t p q v = 0 := Decidable.of_not_not hne
  have hW0 := hw h0
  rw [if_pos h0]
  obtain ⟨hi, h60⟩ : inNet t p q = true ∧ ¬ t.2.1.getD p.toNat 0 = 60 := by
    unfold writeE at h0
    split at h0
    · rename_i h
      rw [Bool.and_eq_true] at h
      refine ⟨h.1, fun e => ?_⟩
      rw [if_pos e] at h0; cases h0
    · cases h0
  obtain ⟨⟨p0, p1⟩, q0, q1⟩ := inNet_iff.1 hi
  have hpl : p.toNat < t.1.length := by omega
  have hpn : p.toNat < n := by rw [← I.len]; exact hpl
  have hrow : (t.1.getD p.toNat (List.replicate 4 [])).length = 4 := I.row _ (getD_memL hpl)
  have hv := fun i j => vAt_set (t := t) (p := p) (k := q) (l := [newV t p q v]) (w := upW t p) hpl (by rw [hrow]; omega) i j
  have hvals : valsAt t p q = vAt t p.toNat q.toNat := rfl
  have hn : ∀ w ∈ vAt t p.toNat q.toNat, w.1.length = n := fun w h => I.ln h
  have hup : ∀ i, i < n → (upW t p).getD i 0 = if i = p.toNat then t.2.1.getD p.toNat 0 + 1 else t.2.1.getD i 0 := fun i hi => by
    unfold upW; rw [getD_setL _ _ _ _ _ (by rw [I.wr]; exact hpn)]
  have hnl : (newV t p q v).1.length = n := by
    show (List.set _ _ _).length = n
    rw [List.length_set, accU_len, I.len]
  have hnv : ∀ i, i < n → (newV t p q v).1.getD i 0 = if i = p.toNat then t.2.1.getD p.toNat 0 + 1 else (accU (vAt t p.toNat q.toNat) n (vAt t p.toNat q.toNat).length).getD i 0 := fun i hi => by
    show (List.set _ _ _).getD i 0 = _
    rw [getD_setL _ _ _ _ _ (by rw [accU_len, I.len]; exact hpn), hup _ hpn, if_pos rfl, hvals, I.len]
  have hacc : ∀ i, i < n → 0 ≤ (accU (vAt t p.toNat q.toNat) n (vAt t p.toNat q.toNat).length).getD i 0 ∧ (accU (vAt t p.toNat q.toNat) n (vAt t p.toNat q.toNat).length).getD i 0 ≤ t.2.1.getD i 0 := fun i hi => by
    refine ⟨(accU_ge hn hi _ (Nat.le_refl _)).1, ?_⟩
    rcases accU_at hn hi _ (Nat.le_refl _) with e | ⟨w, hw, e⟩
    · rw [e]; exact (I.cnt i hi).1
    · rw [← e]
      obtain ⟨p', hp'⟩ := I.mem _ _ _ hw
      exact (I.hb _ _ _ hp' i hi).2
  have hge : ∀ i, i < n → (accU (vAt t p.toNat q.toNat) n (vAt t p.toNat q.toNat).length).getD i 0 ≤ (newV t p q v).1.getD i 0 := fun i hi => by
    rw [hnv i hi]
    have := hacc i hi
    split
    · rename_i e; subst e; omega
    · omega
  have hover : ∀ w x, w ∈ vAt t p.toNat q.toNat → x.1.length = n → sawB w x = true → sawB (newV t p q v) x = true := fun w x hw hx hs => by
    refine sawB_all.2 fun i hi => ?_
    rw [hnl] at hi
    have h1 := sawB_all.1 hs i (by rw [hn w hw]; exact hi)
    have h2 := accU_mem hn hi hw
    have h3 := hge i hi
    omega
  have hupp : (upW t p).getD p.toNat 0 = t.2.1.getD p.toNat 0 + 1 := by rw [hup _ hpn, if_pos rfl]
  have hnvp : (newV t p q v).1.getD p.toNat 0 = t.2.1.getD p.toNat 0 + 1 := by rw [hnv _ hpn, if_pos rfl]
  have hcp := I.cnt p.toNat hpn
  have oldnew : ∀ p' x, H q.toNat p' x → x.1.getD p' 0 ≤ (newV t p q v).1.getD p' 0 → sawB (newV t p q v) x = true := fun p' x hx hle => by
    by_cases e : p' = p.toNat
    · subst e
      obtain ⟨w, hw, hs⟩ := I.hd _ _ _ hx
      exact hover w x hw (I.hl _ _ _ hx) hs
    · obtain ⟨l1, l2⟩ := I.hp _ _ _ hx
      rw [hnv _ l1, if_neg e] at hle
      rcases accU_at hn l1 _ (Nat.le_refl _) with e2 | ⟨w, hw, e2⟩
      · omega
      · obtain ⟨p'', hp''⟩ := I.mem _ _ _ hw
        exact hover w x hw (I.hl _ _ _ hx) (I.hc _ _ _ _ _ hx hp'' (by omega))
  refine ⟨fun k' p' v' => H k' p' v' ∨ (k' = q.toNat ∧ p' = p.toNat ∧ v' = newV t p q v), ?_⟩
  exact {
    len := by show (setAt t p q _).length = n; rw [setAt_len]; exact I.len
    lo := I.lo, hi := I.hi
    wr := by show (upW t p).length = n; unfold upW; rw [List.length_set]; exact I.wr
    row := setAt_rows I.row hpl
    cnt := fun i hi => by
      show 0 ≤ (upW t p).getD i 0 ∧ (upW t p).getD i 0 ≤ 60
      rw [hup i hi]
      have := I.cnt i hi
      split <;> omega
    mem := fun i k x h => by
      rw [hv] at h
      split at h
      · rename_i hc
        rw [List.mem_singleton] at h
        exact ⟨p.toNat, .inr ⟨hc.2, rfl, h⟩⟩
      · obtain ⟨p', hp'⟩ := I.mem i k x h
        exact ⟨p', .inl hp'⟩
    sv := fun i k => by
      rw [hv]; split
      · exact List.pairwise_singleton ..
      · exact I.sv i k
    anti := fun i k x y h h' hs => by
      rw [hv] at h h'
      split at h
      · rename_i hc
        rw [if_pos hc] at h'
        rw [List.mem_singleton] at h h'
        rw [h, h']
      · rename_i hc
        rw [if_neg hc] at h'
        exact I.anti i k x y h h' hs
    hp := fun k p' x h => by
      rcases h with h | ⟨-, rfl, rfl⟩
      · exact I.hp k p' x h
      · exact ⟨hpn, by omega⟩
    hl := fun k p' x h => by
      rcases h with h | ⟨-, -, rfl⟩
      · exact I.hl k p' x h
      · exact hnl
    hb := fun k p' x h i hi => by
      show 0 ≤ x.1.getD i 0 ∧ x.1.getD i 0 ≤ (upW t p).getD i 0
      rw [hup i hi]
      rcases h with h | ⟨-, -, rfl⟩
      · have := I.hb k p' x h i hi
        split
        · rename_i e; subst e; omega
        · exact this
      · rw [hnv i hi]
        have := hacc i hi
        split
        · omega
        · exact this
    hW := fun k p' x h => by
      rcases h with h | ⟨rfl, -, rfl⟩
      · exact I.hW k p' x h
      · exact hW0
    hc := fun k p' x p'' y h h' hle => by
      rcases h with h | ⟨rfl, rfl, rfl⟩
      · rcases h' with h' | ⟨rfl, rfl, rfl⟩
        · exact I.hc k p' x p'' y h h' hle
        · exact oldnew p' x h hle
      · rcases h' with h' | ⟨-, -, rfl⟩
        · have := (I.hb _ _ _ h' p.toNat hpn).2
          omega
        · exact saw_refl _
    hf := fun k p' x p'' y h h' e => by
      rcases h with h | ⟨-, -, rfl⟩
      · rcases h' with h' | ⟨-, -, rfl⟩
        · exact I.hf k p' x p'' y h h' e
        · have := (I.hb _ _ _ h p.toNat hpn).2
          rw [e] at this; omega
      · rcases h' with h' | ⟨-, -, rfl⟩
        · have := (I.hb _ _ _ h' p.toNat hpn).2
          rw [← e] at this; omega
        · rfl
    hd := fun k p' x h => by
      rcases h with h | ⟨rfl, rfl, rfl⟩
      · obtain ⟨w, hw, hs⟩ := I.hd k p' x h
        rw [hv]
        split
        · rename_i hc
          rw [hc.1, hc.2] at hw
          exact ⟨_, List.mem_singleton.2 rfl, hover w x hw (I.hl _ _ _ h) hs⟩
        · exact ⟨w, hw, hs⟩
      · rw [hv, if_pos ⟨rfl, rfl⟩]
        exact ⟨_, List.mem_singleton.2 rfl, saw_refl _⟩ }
end
end Go.Proofs.Ytgcliogognkdkaa

/- Nets: what is played, and told around. -/
namespace Go.Proofs.Ytgcliogognkdkaa
open Go.Vc
def stepT (t : Net) (l : List Int) : Net :=
  if l.length = 3 then writeT t (l.getD 0 0) (l.getD 1 0) (l.getD 2 0) else if l.length = 2 then syncT t (l.getD 0 0) (l.getD 1 0) else t
def playF (n : Nat) (steps : List (List Int)) : Nat → Net
  | 0 => newF n
  | i + 1 => stepT (playF n steps i) (steps.getD i [])
def playN (n : Int) (steps : List (List Int)) (m : Nat) : Net := playF n.toNat steps (min steps.length m)
def cFactG : Ctr := cdet [] True [⟨.bool, true⟩]
def oPlayed : OCtr := fun args ob k => match args, ob with
  | [.d (.int .i64) n, .d (.sl (.sl (.int .i64))) steps], [] => (inB n 1 5 = false → k (.tp [.nilp, .d .bool false]) []) ∧ (inB n 1 5 = true → k (.tp [.ps 0, .d .bool true]) (obNet (playN n steps 60)))
  | _, _ => False
def anPlay (r a b : Nat) (keep : List Nat) (n : Int) (steps : List (List Int)) (m : Nat) : Nat × LoopAnn :=
  loopAt r Nat [] (fun st i => { St.at (St.only st keep) [(a, .d I (i : Int))] with ob := obNet (playF n.toNat steps i) }) (fun _ i => (i ≤ steps.length ∧ i ≤ m) ∧ inB n 1 5 = true) (fun i => b - i)
def anPlayed (n : Int) (steps : List (List Int)) : Ann := [joinAll, anPlay 5 8 100 [0, 1, 6] n steps 60]
/-- one tells all -/
def arQ (p : Nat) (t : Net) : Nat → Net
  | 0 => t
  | q + 1 => if ¬ (p : Int) = (q : Int) then syncT (arQ p t q) (p : Int) (q : Int) else arQ p t q
def arP (n : Nat) (t : Net) : Nat → Net
  | 0 => t
  | p + 1 => arQ p (arP n t p) n
def arF (t : Net) : Net := arP t.1.length t t.1.length
/-- all tell all, the last one first -/
def dnP (n : Nat) (t : Net) : Nat → Net
  | 0 => t
  | m + 1 => arQ (n - 1 - m) (dnP n t m) n
def NOk (t : Net) : Prop := ∃ W H, NInv t.1.length W H t
def oAround : OCtr := fun args ob k => match args, ob with
  | [.ps 0, .d (.int .i64) n], [.st 77 [.os 1, .os 2], .row 74 (.ar 4 (.sl (.pr (.sl (.int .i64)) (.pr (.int .i64) .un)))) nodes, .row 3 (.int .i64) wrote] =>
    (NOk (nodes, wrote, ()) ∧ (n : Int) = (List.length nodes : Int)) ∧ k (.d .bool true) (obNet (arF (nodes, wrote, ())))
  | _, _ => False
def anAround (t : Net) : Ann := [joinAll,
  loopAt 2 Nat [] (fun st p => { St.at (St.only st [0, 1]) [(5, .d I (p : Int))] with ob := obNet (arP t.1.length t p) }) (fun _ p => p ≤ t.1.length ∧ True) (fun p => t.1.length - p),
  loopAt 5 Nat [] (fun st q => { St.at (St.only st [0, 1, 5]) [(6, .d I (q : Int))] with ob := obNet (arQ (st.i 5).toNat (arP t.1.length t (st.i 5).toNat) q) }) (fun _ q => q ≤ t.1.length ∧ True) (fun q => t.1.length - q)]
/-- reading, seen from who holds the net: a row of the call's own -/
def oRead : OCtr := fun args ob k => match args, ob with
  | [.ps 0, .d (.int .i64) p, .d (.int .i64) q], [.st 77 [.os 1, .os 2], .row 74 (.ar 4 (.sl (.pr (.sl (.int .i64)) (.pr (.int .i64) .un)))) nodes, .row 3 (.int .i64) wrote] =>
    NetLen (nodes, wrote, ()) ∧ k (.os 1) [.st 77 [.os 2, .os 3], .row 52 tV (readF (nodes, wrote, ()) p q), .row 74 tRow nodes, .row 3 I wrote]
  | _, _ => False
def anReadO (t : Net) (p k : Int) : Ann := [joinAll, loopAt 5 Nat [(7, 52, tV)] (fun st i => { St.at (St.only st [0, 7, 23, 24]) [(25, .d I (i : Int))] with ob := obNet t ++ [.row 52 tV ((valsAt t p k).take i)] }) (fun _ i => i ≤ (valsAt t p k).length ∧ inNet t p k = true) (fun i => (valsAt t p k).length - i)]
end Go.Proofs.Ytgcliogognkdkaa

/- What the functions of this seat have to satisfy, by program: each verification condition in plain words. -/
namespace Go.Proofs.Ytgcliogognkdkaa
open Go.Vc
set_option linter.unusedVariables false
theorem vcPlayed (n : Int) (s : List (List Int)) (k : SV → List Ob → Prop) : vcO ⟨Eg, [], [], [], [(26, oSync), (28, oWrite), (29, oNew)]⟩ (anPlayed n s) (Try.f23.body.getD .skip) Try.f23.ntmps [(.tmp 4, .un), (.tmp 5, .bool)] [.d I n, .d (.sl (.sl I)) s] [] k = (
  (inB n (1 : Int) (5 : Int) = false → ((!decide ((1 : Int) = (0 : Int))) = true → k (SV.tp [SV.nilp, SV.d Ty.bool false]) []) ∧ ((!decide ((1 : Int) = (0 : Int))) = false → (∃ (x : Nat), ((x ≤ s.length ∧ x ≤ (60 : Nat)) ∧ inB n (1 : Int) (5 : Int) = true) ∧ (n = n ∧ s = s ∧ True ∧ (0 : Int) = (↑x : Int) ∧ True) ∧ (False ∧ False ∧ False ∧ True) ∧ n = n ∧ s = s ∧ True) ∧ ∀ (x : Nat), (x ≤ s.length ∧ x ≤ (60 : Nat)) ∧ inB n (1 : Int) (5 : Int) = true → (decide ((↑x : Int) < (↑s.length : Int)) = true → (decide ((↑x : Int) < (60 : Int)) = true → (0 : Int) ≤ (↑x : Int) ∧ (↑x : Int) < (↑s.length : Int) ∧ (decide ((↑(s.getD (↑x : Int).toNat []).length : Int) = (3 : Int)) = true → ((0 : Int) ≤ (0 : Int) ∧ (0 : Int) < (↑(s.getD (↑x : Int).toNat []).length : Int) ∧ (0 : Int) ≤ (1 : Int) ∧ (1 : Int) < (↑(s.getD (↑x : Int).toNat []).length : Int) ∧ (0 : Int) ≤ (2 : Int) ∧ (2 : Int) < (↑(s.getD (↑x : Int).toNat []).length : Int) ∧ True) ∧ False) ∧ (decide ((↑(s.getD (↑x : Int).toNat []).length : Int) = (3 : Int)) = false → (decide ((↑(s.getD (↑x : Int).toNat []).length : Int) = (2 : Int)) = true → ((0 : Int) ≤ (0 : Int) ∧ (0 : Int) < (↑(s.getD (↑x : Int).toNat []).length : Int) ∧ (0 : Int) ≤ (1 : Int) ∧ (1 : Int) < (↑(s.getD (↑x : Int).toNat []).length : Int) ∧ True) ∧ False) ∧ (decide ((↑(s.getD (↑x : Int).toNat []).length : Int) = (2 : Int)) = false → inK IntKind.i64 ((↑x : Int) + (1 : Int)) ∧ ∃ (x_1 : Nat), ((x_1 ≤ s.length ∧ x_1 ≤ (60 : Nat)) ∧ inB n (1 : Int) (5 : Int) = true) ∧ (100 : Nat) - x_1 < (100 : Nat) - x ∧ (n = n ∧ s = s ∧ True ∧ (↑x : Int) + (1 : Int) = (↑x_1 : Int) ∧ True) ∧ ((True ∧ True ∧ True) ∧ ((74 : Nat) = (74 : Nat) ∧ (playF n.toNat s x).fst = (playF n.toNat s x_1).fst) ∧ ((3 : Nat) = (3 : Nat) ∧ (playF n.toNat s x).snd.fst = (playF n.toNat s x_1).snd.fst) ∧ True) ∧ n = n ∧ s = s ∧ True))) ∧ (decide ((↑x : Int) < (60 : Int)) = false → k (SV.tp [SV.nilp, SV.d Ty.bool true]) [])) ∧ (decide ((↑x : Int) < (↑s.length : Int)) = false → k (SV.tp [SV.nilp, SV.d Ty.bool true]) []))) ∧ (inB n (1 : Int) (5 : Int) = true → ((!decide ((0 : Int) = (0 : Int))) = true → k (SV.tp [SV.ps (0 : Nat), SV.d Ty.bool false]) [Ob.st (77 : Nat) [SV.os (1 : Nat), SV.os (2 : Nat)], Ob.row (74 : Nat) (Ty.ar (4 : Nat) (tV).sl) (List.replicate n.toNat (List.replicate (4 : Nat) [])), Ob.row (3 : Nat) (I) (List.replicate n.toNat (0 : Int))]) ∧ ((!decide ((0 : Int) = (0 : Int))) = false → (∃ (x : Nat), ((x ≤ s.length ∧ x ≤ (60 : Nat)) ∧ inB n (1 : Int) (5 : Int) = true) ∧ (n = n ∧ s = s ∧ True ∧ (0 : Int) = (↑x : Int) ∧ True) ∧ ((True ∧ True ∧ True) ∧ ((74 : Nat) = (74 : Nat) ∧ List.replicate n.toNat (List.replicate (4 : Nat) []) = (playF n.toNat s x).fst) ∧ ((3 : Nat) = (3 : Nat) ∧ List.replicate n.toNat (0 : Int) = (playF n.toNat s x).snd.fst) ∧ True) ∧ n = n ∧ s = s ∧ True) ∧ ∀ (x : Nat), (x ≤ s.length ∧ x ≤ (60 : Nat)) ∧ inB n (1 : Int) (5 : Int) = true → (decide ((↑x : Int) < (↑s.length : Int)) = true → (decide ((↑x : Int) < (60 : Int)) = true → (0 : Int) ≤ (↑x : Int) ∧ (↑x : Int) < (↑s.length : Int) ∧ (decide ((↑(s.getD (↑x : Int).toNat []).length : Int) = (3 : Int)) = true → ((0 : Int) ≤ (0 : Int) ∧ (0 : Int) < (↑(s.getD (↑x : Int).toNat []).length : Int) ∧ (0 : Int) ≤ (1 : Int) ∧ (1 : Int) < (↑(s.getD (↑x : Int).toNat []).length : Int) ∧ (0 : Int) ≤ (2 : Int) ∧ (2 : Int) < (↑(s.getD (↑x : Int).toNat []).length : Int) ∧ True) ∧ NetSh ((playF n.toNat s x).fst, (playF n.toNat s x).snd.fst, ()) ∧ (decide ((↑(s.getD (↑x : Int).toNat []).length : Int) = (2 : Int)) = true → ((0 : Int) ≤ (0 : Int) ∧ (0 : Int) < (↑(s.getD (↑x : Int).toNat []).length : Int) ∧ (0 : Int) ≤ (1 : Int) ∧ (1 : Int) < (↑(s.getD (↑x : Int).toNat []).length : Int) ∧ True) ∧ NetSh ((writeT ((playF n.toNat s x).fst, (playF n.toNat s x).snd.fst, ()) ((s.getD (↑x : Int).toNat []).getD (Int.toNat (0 : Int)) (0 : Int)) ((s.getD (↑x : Int).toNat []).getD (Int.toNat (1 : Int)) (0 : Int)) ((s.getD (↑x : Int).toNat []).getD (Int.toNat (2 : Int)) (0 : Int))).fst, (writeT ((playF n.toNat s x).fst, (playF n.toNat s x).snd.fst, ()) ((s.getD (↑x : Int).toNat []).getD (Int.toNat (0 : Int)) (0 : Int)) ((s.getD (↑x : Int).toNat []).getD (Int.toNat (1 : Int)) (0 : Int)) ((s.getD (↑x : Int).toNat []).getD (Int.toNat (2 : Int)) (0 : Int))).snd.fst, ()) ∧ inK IntKind.i64 ((↑x : Int) + (1 : Int)) ∧ ∃ (x_1 : Nat), ((x_1 ≤ s.length ∧ x_1 ≤ (60 : Nat)) ∧ inB n (1 : Int) (5 : Int) = true) ∧ (100 : Nat) - x_1 < (100 : Nat) - x ∧ (n = n ∧ s = s ∧ True ∧ (↑x : Int) + (1 : Int) = (↑x_1 : Int) ∧ True) ∧ ((True ∧ True ∧ True) ∧ ((74 : Nat) = (74 : Nat) ∧ (syncT ((writeT ((playF n.toNat s x).fst, (playF n.toNat s x).snd.fst, ()) ((s.getD (↑x : Int).toNat []).getD (Int.toNat (0 : Int)) (0 : Int)) ((s.getD (↑x : Int).toNat []).getD (Int.toNat (1 : Int)) (0 : Int)) ((s.getD (↑x : Int).toNat []).getD (Int.toNat (2 : Int)) (0 : Int))).fst, (writeT ((playF n.toNat s x).fst, (playF n.toNat s x).snd.fst, ()) ((s.getD (↑x : Int).toNat []).getD (Int.toNat (0 : Int)) (0 : Int)) ((s.getD (↑x : Int).toNat []).getD (Int.toNat (1 : Int)) (0 : Int)) ((s.getD (↑x : Int).toNat []).getD (Int.toNat (2 : Int)) (0 : Int))).snd.fst, ()) ((s.getD (↑x : Int).toNat []).getD (Int.toNat (0 : Int)) (0 : Int)) ((s.getD (↑x : Int).toNat []).getD (Int.toNat (1 : Int)) (0 : Int))).fst = (playF n.toNat s x_1).fst) ∧ ((3 : Nat) = (3 : Nat) ∧ (syncT ((writeT ((playF n.toNat s x).fst, (playF n.toNat s x).snd.fst, ()) ((s.getD (↑x : Int).toNat []).getD (Int.toNat (0 : Int)) (0 : Int)) ((s.getD (↑x : Int).toNat []).getD (Int.toNat (1 : Int)) (0 : Int)) ((s.getD (↑x : Int).toNat []).getD (Int.toNat (2 : Int)) (0 : Int))).fst, (writeT ((playF n.toNat s x).fst, (playF n.toNat s x).snd.fst, ()) ((s.getD (↑x : Int).toNat []).getD (Int.toNat (0 : Int)) (0 : Int)) ((s.getD (↑x : Int).toNat []).getD (Int.toNat (1 : Int)) (0 : Int)) ((s.getD (↑x : Int).toNat []).getD (Int.toNat (2 : Int)) (0 : Int))).snd.fst, ()) ((s.getD (↑x : Int).toNat []).getD (Int.toNat (0 : Int)) (0 : Int)) ((s.getD (↑x : Int).toNat []).getD (Int.toNat (1 : Int)) (0 : Int))).snd.fst = (playF n.toNat s x_1).snd.fst) ∧ True) ∧ n = n ∧ s = s ∧ True) ∧ (decide ((↑(s.getD (↑x : Int).toNat []).length : Int) = (2 : Int)) = false → inK IntKind.i64 ((↑x : Int) + (1 : Int)) ∧ ∃ (x_1 : Nat), ((x_1 ≤ s.length ∧ x_1 ≤ (60 : Nat)) ∧ inB n (1 : Int) (5 : Int) = true) ∧ (100 : Nat) - x_1 < (100 : Nat) - x ∧ (n = n ∧ s = s ∧ True ∧ (↑x : Int) + (1 : Int) = (↑x_1 : Int) ∧ True) ∧ ((True ∧ True ∧ True) ∧ ((74 : Nat) = (74 : Nat) ∧ (writeT ((playF n.toNat s x).fst, (playF n.toNat s x).snd.fst, ()) ((s.getD (↑x : Int).toNat []).getD (Int.toNat (0 : Int)) (0 : Int)) ((s.getD (↑x : Int).toNat []).getD (Int.toNat (1 : Int)) (0 : Int)) ((s.getD (↑x : Int).toNat []).getD (Int.toNat (2 : Int)) (0 : Int))).fst = (playF n.toNat s x_1).fst) ∧ ((3 : Nat) = (3 : Nat) ∧ (writeT ((playF n.toNat s x).fst, (playF n.toNat s x).snd.fst, ()) ((s.getD (↑x : Int).toNat []).getD (Int.toNat (0 : Int)) (0 : Int)) ((s.getD (↑x : Int).toNat []).getD (Int.toNat (1 : Int)) (0 : Int)) ((s.getD (↑x : Int).toNat []).getD (Int.toNat (2 : Int)) (0 : Int))).snd.fst = (playF n.toNat s x_1).snd.fst) ∧ True) ∧ n = n ∧ s = s ∧ True)) ∧ (decide ((↑(s.getD (↑x : Int).toNat []).length : Int) = (3 : Int)) = false → (decide ((↑(s.getD (↑x : Int).toNat []).length : Int) = (2 : Int)) = true → ((0 : Int) ≤ (0 : Int) ∧ (0 : Int) < (↑(s.getD (↑x : Int).toNat []).length : Int) ∧ (0 : Int) ≤ (1 : Int) ∧ (1 : Int) < (↑(s.getD (↑x : Int).toNat []).length : Int) ∧ True) ∧ NetSh ((playF n.toNat s x).fst, (playF n.toNat s x).snd.fst, ()) ∧ inK IntKind.i64 ((↑x : Int) + (1 : Int)) ∧ ∃ (x_1 : Nat), ((x_1 ≤ s.length ∧ x_1 ≤ (60 : Nat)) ∧ inB n (1 : Int) (5 : Int) = true) ∧ (100 : Nat) - x_1 < (100 : Nat) - x ∧ (n = n ∧ s = s ∧ True ∧ (↑x : Int) + (1 : Int) = (↑x_1 : Int) ∧ True) ∧ ((True ∧ True ∧ True) ∧ ((74 : Nat) = (74 : Nat) ∧ (syncT ((playF n.toNat s x).fst, (playF n.toNat s x).snd.fst, ()) ((s.getD (↑x : Int).toNat []).getD (Int.toNat (0 : Int)) (0 : Int)) ((s.getD (↑x : Int).toNat []).getD (Int.toNat (1 : Int)) (0 : Int))).fst = (playF n.toNat s x_1).fst) ∧ ((3 : Nat) = (3 : Nat) ∧ (syncT ((playF n.toNat s x).fst, (playF n.toNat s x).snd.fst, ()) ((s.getD (↑x : Int).toNat []).getD (Int.toNat (0 : Int)) (0 : Int)) ((s.getD (↑x : Int).toNat []).getD (Int.toNat (1 : Int)) (0 : Int))).snd.fst = (playF n.toNat s x_1).snd.fst) ∧ True) ∧ n = n ∧ s = s ∧ True) ∧ (decide ((↑(s.getD (↑x : Int).toNat []).length : Int) = (2 : Int)) = false → inK IntKind.i64 ((↑x : Int) + (1 : Int)) ∧ ∃ (x_1 : Nat), ((x_1 ≤ s.length ∧ x_1 ≤ (60 : Nat)) ∧ inB n (1 : Int) (5 : Int) = true) ∧ (100 : Nat) - x_1 < (100 : Nat) - x ∧ (n = n ∧ s = s ∧ True ∧ (↑x : Int) + (1 : Int) = (↑x_1 : Int) ∧ True) ∧ ((True ∧ True ∧ True) ∧ ((74 : Nat) = (74 : Nat) ∧ (playF n.toNat s x).fst = (playF n.toNat s x_1).fst) ∧ ((3 : Nat) = (3 : Nat) ∧ (playF n.toNat s x).snd.fst = (playF n.toNat s x_1).snd.fst) ∧ True) ∧ n = n ∧ s = s ∧ True))) ∧ (decide ((↑x : Int) < (60 : Int)) = false → k (SV.tp [SV.ps (0 : Nat), SV.d Ty.bool true]) [Ob.st (77 : Nat) [SV.os (1 : Nat), SV.os (2 : Nat)], Ob.row (74 : Nat) (Ty.ar (4 : Nat) (tV).sl) (playF n.toNat s x).fst, Ob.row (3 : Nat) (I) (playF n.toNat s x).snd.fst])) ∧ (decide ((↑x : Int) < (↑s.length : Int)) = false → k (SV.tp [SV.ps (0 : Nat), SV.d Ty.bool true]) [Ob.st (77 : Nat) [SV.os (1 : Nat), SV.os (2 : Nat)], Ob.row (74 : Nat) (Ty.ar (4 : Nat) (tV).sl) (playF n.toNat s x).fst, Ob.row (3 : Nat) (I) (playF n.toNat s x).snd.fst])))) := by kernel_rfl
theorem vcAround (nd : List (List (List Va))) (wr : List Int) (n : Int) (k : SV → List Ob → Prop) : vcO ⟨Eg, [], [], [], [(26, oSync)]⟩ (anAround (nd, wr, ())) (Try.f25.body.getD .skip) Try.f25.ntmps [(.tmp 4, .bool)] [.ps 0, .d I n] [.st 77 [.os 1, .os 2], .row 74 tRow nd, .row 3 I wr] k = (
  (∃ (x : Nat), (x ≤ nd.length ∧ True) ∧ (True ∧ n = n ∧ (0 : Int) = (↑x : Int) ∧ True) ∧ ((True ∧ True ∧ True) ∧ ((74 : Nat) = (74 : Nat) ∧ nd = (arP nd.length (nd, wr, ()) x).fst) ∧ ((3 : Nat) = (3 : Nat) ∧ wr = (arP nd.length (nd, wr, ()) x).snd.fst) ∧ True) ∧ True ∧ n = n ∧ True) ∧ ∀ (x : Nat), x ≤ nd.length ∧ True → (decide ((↑x : Int) < n) = true → (∃ (x_1 : Nat), (x_1 ≤ nd.length ∧ True) ∧ (True ∧ n = n ∧ (↑x : Int) = (↑x : Int) ∧ (0 : Int) = (↑x_1 : Int) ∧ True) ∧ ((True ∧ True ∧ True) ∧ ((74 : Nat) = (74 : Nat) ∧ (arP nd.length (nd, wr, ()) x).fst = (arQ (↑x : Int).toNat (arP nd.length (nd, wr, ()) (↑x : Int).toNat) x_1).fst) ∧ ((3 : Nat) = (3 : Nat) ∧ (arP nd.length (nd, wr, ()) x).snd.fst = (arQ (↑x : Int).toNat (arP nd.length (nd, wr, ()) (↑x : Int).toNat) x_1).snd.fst) ∧ True) ∧ True ∧ n = n ∧ True) ∧ ∀ (x_1 : Nat), x_1 ≤ nd.length ∧ True → (decide ((↑x_1 : Int) < n) = true → ((!decide ((↑x : Int) = (↑x_1 : Int))) = true → NetSh ((arQ (↑x : Int).toNat (arP nd.length (nd, wr, ()) (↑x : Int).toNat) x_1).fst, (arQ (↑x : Int).toNat (arP nd.length (nd, wr, ()) (↑x : Int).toNat) x_1).snd.fst, ()) ∧ ((!decide (syncE ((arQ (↑x : Int).toNat (arP nd.length (nd, wr, ()) (↑x : Int).toNat) x_1).fst, (arQ (↑x : Int).toNat (arP nd.length (nd, wr, ()) (↑x : Int).toNat) x_1).snd.fst, ()) (↑x : Int) (↑x_1 : Int) = (0 : Int))) = true → k (SV.d Ty.bool false) [Ob.st (77 : Nat) [SV.os (1 : Nat), SV.os (2 : Nat)], Ob.row (74 : Nat) (Ty.ar (4 : Nat) (tV).sl) (syncT ((arQ (↑x : Int).toNat (arP nd.length (nd, wr, ()) (↑x : Int).toNat) x_1).fst, (arQ (↑x : Int).toNat (arP nd.length (nd, wr, ()) (↑x : Int).toNat) x_1).snd.fst, ()) (↑x : Int) (↑x_1 : Int)).fst, Ob.row (3 : Nat) (I) (syncT ((arQ (↑x : Int).toNat (arP nd.length (nd, wr, ()) (↑x : Int).toNat) x_1).fst, (arQ (↑x : Int).toNat (arP nd.length (nd, wr, ()) (↑x : Int).toNat) x_1).snd.fst, ()) (↑x : Int) (↑x_1 : Int)).snd.fst]) ∧ ((!decide (syncE ((arQ (↑x : Int).toNat (arP nd.length (nd, wr, ()) (↑x : Int).toNat) x_1).fst, (arQ (↑x : Int).toNat (arP nd.length (nd, wr, ()) (↑x : Int).toNat) x_1).snd.fst, ()) (↑x : Int) (↑x_1 : Int) = (0 : Int))) = false → inK IntKind.i64 ((↑x_1 : Int) + (1 : Int)) ∧ ∃ (x_2 : Nat), (x_2 ≤ nd.length ∧ True) ∧ nd.length - x_2 < nd.length - x_1 ∧ (True ∧ n = n ∧ (↑x : Int) = (↑x : Int) ∧ (↑x_1 : Int) + (1 : Int) = (↑x_2 : Int) ∧ True) ∧ ((True ∧ True ∧ True) ∧ ((74 : Nat) = (74 : Nat) ∧ (syncT ((arQ (↑x : Int).toNat (arP nd.length (nd, wr, ()) (↑x : Int).toNat) x_1).fst, (arQ (↑x : Int).toNat (arP nd.length (nd, wr, ()) (↑x : Int).toNat) x_1).snd.fst, ()) (↑x : Int) (↑x_1 : Int)).fst = (arQ (↑x : Int).toNat (arP nd.length (nd, wr, ()) (↑x : Int).toNat) x_2).fst) ∧ ((3 : Nat) = (3 : Nat) ∧ (syncT ((arQ (↑x : Int).toNat (arP nd.length (nd, wr, ()) (↑x : Int).toNat) x_1).fst, (arQ (↑x : Int).toNat (arP nd.length (nd, wr, ()) (↑x : Int).toNat) x_1).snd.fst, ()) (↑x : Int) (↑x_1 : Int)).snd.fst = (arQ (↑x : Int).toNat (arP nd.length (nd, wr, ()) (↑x : Int).toNat) x_2).snd.fst) ∧ True) ∧ True ∧ n = n ∧ True)) ∧ ((!decide ((↑x : Int) = (↑x_1 : Int))) = false → inK IntKind.i64 ((↑x_1 : Int) + (1 : Int)) ∧ ∃ (x_2 : Nat), (x_2 ≤ nd.length ∧ True) ∧ nd.length - x_2 < nd.length - x_1 ∧ (True ∧ n = n ∧ (↑x : Int) = (↑x : Int) ∧ (↑x_1 : Int) + (1 : Int) = (↑x_2 : Int) ∧ True) ∧ ((True ∧ True ∧ True) ∧ ((74 : Nat) = (74 : Nat) ∧ (arQ (↑x : Int).toNat (arP nd.length (nd, wr, ()) (↑x : Int).toNat) x_1).fst = (arQ (↑x : Int).toNat (arP nd.length (nd, wr, ()) (↑x : Int).toNat) x_2).fst) ∧ ((3 : Nat) = (3 : Nat) ∧ (arQ (↑x : Int).toNat (arP nd.length (nd, wr, ()) (↑x : Int).toNat) x_1).snd.fst = (arQ (↑x : Int).toNat (arP nd.length (nd, wr, ()) (↑x : Int).toNat) x_2).snd.fst) ∧ True) ∧ True ∧ n = n ∧ True)) ∧ (decide ((↑x_1 : Int) < n) = false → inK IntKind.i64 ((↑x : Int) + (1 : Int)) ∧ ∃ (x_2 : Nat), (x_2 ≤ nd.length ∧ True) ∧ nd.length - x_2 < nd.length - x ∧ (True ∧ n = n ∧ (↑x : Int) + (1 : Int) = (↑x_2 : Int) ∧ True) ∧ ((True ∧ True ∧ True) ∧ ((74 : Nat) = (74 : Nat) ∧ (arQ (↑x : Int).toNat (arP nd.length (nd, wr, ()) (↑x : Int).toNat) x_1).fst = (arP nd.length (nd, wr, ()) x_2).fst) ∧ ((3 : Nat) = (3 : Nat) ∧ (arQ (↑x : Int).toNat (arP nd.length (nd, wr, ()) (↑x : Int).toNat) x_1).snd.fst = (arP nd.length (nd, wr, ()) x_2).snd.fst) ∧ True) ∧ True ∧ n = n ∧ True)) ∧ (decide ((↑x : Int) < n) = false → k (SV.d Ty.bool true) [Ob.st (77 : Nat) [SV.os (1 : Nat), SV.os (2 : Nat)], Ob.row (74 : Nat) (Ty.ar (4 : Nat) (tV).sl) (arP nd.length (nd, wr, ()) x).fst, Ob.row (3 : Nat) (I) (arP nd.length (nd, wr, ()) x).snd.fst])) := by kernel_rfl
theorem vcReadO (nd : List (List (List Va))) (wr : List Int) (p q : Int) (k : SV → List Ob → Prop) : vcO ⟨Eg, [(39, cCloneI), (40, cIs)], [], [], []⟩ (anReadO (nd, wr, ()) p q) (Try.f24.body.getD .skip) Try.f24.ntmps [(.tmp 6, .un)] [.ps 0, .d I p, .d I q] [.st 77 [.os 1, .os 2], .row 74 tRow nd, .row 3 I wr] k = (
  ((!inNet (nd, wr, ()) p q) = true → k SV.nils [Ob.st (77 : Nat) [SV.os (1 : Nat), SV.os (2 : Nat)], Ob.row (74 : Nat) (Ty.ar (4 : Nat) (tV).sl) nd, Ob.row (3 : Nat) (I) wr]) ∧ ((!inNet (nd, wr, ()) p q) = false → (0 : Int) ≤ p ∧ p < (↑nd.length : Int) ∧ (0 : Int) ≤ q ∧ q < (↑(4 : Nat) : Int) ∧ (∃ (x : Nat), (x ≤ (valsAt (nd, wr, ()) p q).length ∧ inNet (nd, wr, ()) p q = true) ∧ (True ∧ True ∧ (nd.getD p.toNat (List.replicate (4 : Nat) [])).getD q.toNat [] = (nd.getD p.toNat (List.replicate (4 : Nat) [])).getD q.toNat [] ∧ (↑((nd.getD p.toNat (List.replicate (4 : Nat) [])).getD q.toNat []).length : Int) = (↑((nd.getD p.toNat (List.replicate (4 : Nat) [])).getD q.toNat []).length : Int) ∧ (0 : Int) = (↑x : Int) ∧ True) ∧ ((True ∧ True ∧ True) ∧ ((74 : Nat) = (74 : Nat) ∧ nd = nd) ∧ ((3 : Nat) = (3 : Nat) ∧ wr = wr) ∧ ((52 : Nat) = (52 : Nat) ∧ [] = List.take x (valsAt (nd, wr, ()) p q)) ∧ True) ∧ True ∧ p = p ∧ q = q ∧ True) ∧ ∀ (x : Nat), x ≤ (valsAt (nd, wr, ()) p q).length ∧ inNet (nd, wr, ()) p q = true → (decide ((↑x : Int) < (↑((nd.getD p.toNat (List.replicate (4 : Nat) [])).getD q.toNat []).length : Int)) = true → (0 : Int) ≤ (↑x : Int) ∧ (↑x : Int) < (↑((nd.getD p.toNat (List.replicate (4 : Nat) [])).getD q.toNat []).length : Int) ∧ ((List.length (((nd.getD p.toNat (List.replicate (4 : Nat) [])).getD q.toNat []).getD (↑x : Int).toNat va0).fst ≤ (1000000000 : Nat) ∧ True) ∧ True) ∧ (List.take x (valsAt (nd, wr, ()) p q)).length + ((List.replicate (1 : Nat) va0).set (0 : Nat) ((((nd.getD p.toNat (List.replicate (4 : Nat) [])).getD q.toNat []).getD (↑x : Int).toNat va0).fst, (((nd.getD p.toNat (List.replicate (4 : Nat) [])).getD q.toNat []).getD (↑x : Int).toNat va0).snd.fst, ())).length ≤ (1000000000 : Nat) ∧ inK IntKind.i64 ((↑x : Int) + (1 : Int)) ∧ ∃ (x_1 : Nat), (x_1 ≤ (valsAt (nd, wr, ()) p q).length ∧ inNet (nd, wr, ()) p q = true) ∧ (valsAt (nd, wr, ()) p q).length - x_1 < (valsAt (nd, wr, ()) p q).length - x ∧ (True ∧ True ∧ (nd.getD p.toNat (List.replicate (4 : Nat) [])).getD q.toNat [] = (nd.getD p.toNat (List.replicate (4 : Nat) [])).getD q.toNat [] ∧ (↑((nd.getD p.toNat (List.replicate (4 : Nat) [])).getD q.toNat []).length : Int) = (↑((nd.getD p.toNat (List.replicate (4 : Nat) [])).getD q.toNat []).length : Int) ∧ (↑x : Int) + (1 : Int) = (↑x_1 : Int) ∧ True) ∧ ((True ∧ True ∧ True) ∧ ((74 : Nat) = (74 : Nat) ∧ nd = nd) ∧ ((3 : Nat) = (3 : Nat) ∧ wr = wr) ∧ ((52 : Nat) = (52 : Nat) ∧ (List.take x (valsAt (nd, wr, ()) p q)).append ((List.replicate (1 : Nat) va0).set (0 : Nat) ((((nd.getD p.toNat (List.replicate (4 : Nat) [])).getD q.toNat []).getD (↑x : Int).toNat va0).fst, (((nd.getD p.toNat (List.replicate (4 : Nat) [])).getD q.toNat []).getD (↑x : Int).toNat va0).snd.fst, ())) = List.take x_1 (valsAt (nd, wr, ()) p q)) ∧ True) ∧ True ∧ p = p ∧ q = q ∧ True) ∧ (decide ((↑x : Int) < (↑((nd.getD p.toNat (List.replicate (4 : Nat) [])).getD q.toNat []).length : Int)) = false → k (SV.os (1 : Nat)) [Ob.st (77 : Nat) [SV.os (2 : Nat), SV.os (3 : Nat)], Ob.row (52 : Nat) (tV) (List.take x (valsAt (nd, wr, ()) p q)), Ob.row (74 : Nat) (Ty.ar (4 : Nat) (tV).sl) nd, Ob.row (3 : Nat) (I) wr]))) := by kernel_rfl
end Go.Proofs.Ytgcliogognkdkaa

/- Nets: for the fact's condition alone: what is written and told is not looked into. -/
namespace Go.Proofs.Ytgcliogognkdkaa
open Go.Vc
def oNewG (nF : Nat → Net) : OCtr := fun args ob k => match args, ob with
  | [.d (.int .i64) n], [] => (inB n 1 5 = false → k (.tp [.nilp, .d tErr (1 : Int)]) []) ∧ (inB n 1 5 = true → k (.tp [.ps 0, .d tErr (0 : Int)]) (obNet (nF (n : Int).toNat)))
  | _, _ => False
def oWriteG (wT : Net → Int → Int → Int → Net) (wE : Net → Int → Int → Int → Int) : OCtr := fun args ob k => match args, ob with
  | [.ps 0, .d (.int .i64) p, .d (.int .i64) q, .d (.int .i64) v], [.st 77 [.os 1, .os 2], .row 74 (.ar 4 (.sl (.pr (.sl (.int .i64)) (.pr (.int .i64) .un)))) nodes, .row 3 (.int .i64) wrote] =>
    NetSh (nodes, wrote, ()) ∧ k (.d tErr (wE (nodes, wrote, ()) p q v)) (obNet (wT (nodes, wrote, ()) p q v))
  | _, _ => False
def oSyncG (sT : Net → Int → Int → Net) (sE : Net → Int → Int → Int) : OCtr := fun args ob k => match args, ob with
  | [.ps 0, .d (.int .i64) a, .d (.int .i64) b], [.st 77 [.os 1, .os 2], .row 74 (.ar 4 (.sl (.pr (.sl (.int .i64)) (.pr (.int .i64) .un)))) nodes, .row 3 (.int .i64) wrote] =>
    NetSh (nodes, wrote, ()) ∧ k (.d tErr (sE (nodes, wrote, ()) a b)) (obNet (sT (nodes, wrote, ()) a b))
  | _, _ => False
def oReadG (rF : Net → Int → Int → List Va) : OCtr := fun args ob k => match args, ob with
  | [.ps 0, .d (.int .i64) p, .d (.int .i64) q], [.st 77 [.os 1, .os 2], .row 74 (.ar 4 (.sl (.pr (.sl (.int .i64)) (.pr (.int .i64) .un)))) nodes, .row 3 (.int .i64) wrote] =>
    NetLen (nodes, wrote, ()) ∧ k (.os 1) [.st 77 [.os 2, .os 3], .row 52 tV (rF (nodes, wrote, ()) p q), .row 74 tRow nodes, .row 3 I wrote]
  | _, _ => False
end Go.Proofs.Ytgcliogognkdkaa

/- What the functions of this seat have to satisfy, by program: each verification condition in plain words. -/
namespace Go.Proofs.Ytgcliogognkdkaa
open Go.Vc
set_option linter.unusedVariables false
theorem vcFactG (rF : Net → Int → Int → List Va) (sT : Net → Int → Int → Net) (sE : Net → Int → Int → Int) (wT : Net → Int → Int → Int → Net) (wE : Net → Int → Int → Int → Int) (nF : Nat → Net) (k : List Dat → Prop) : vcF ⟨Eg, [], [], [], [(24, oReadG rF), (26, oSyncG sT sE), (28, oWriteG wT wE), (29, oNewG nF)]⟩ [joinAll] (Try.f22.body.getD .skip) Try.f22.ntmps [(.tmp 0, .bool)] [] k = (
  (inB (2 : Int) (1 : Int) (5 : Int) = false → ((!decide ((1 : Int) = (0 : Int))) = true → k [Dat.mk Ty.bool false]) ∧ ((!decide ((1 : Int) = (0 : Int))) = false → False)) ∧ (inB (2 : Int) (1 : Int) (5 : Int) = true → ((!decide ((0 : Int) = (0 : Int))) = true → k [Dat.mk Ty.bool false]) ∧ ((!decide ((0 : Int) = (0 : Int))) = false → NetSh ((nF (Int.toNat (2 : Int))).fst, (nF (Int.toNat (2 : Int))).snd.fst, ()) ∧ NetSh ((wT ((nF (Int.toNat (2 : Int))).fst, (nF (Int.toNat (2 : Int))).snd.fst, ()) (0 : Int) (1 : Int) (5 : Int)).fst, (wT ((nF (Int.toNat (2 : Int))).fst, (nF (Int.toNat (2 : Int))).snd.fst, ()) (0 : Int) (1 : Int) (5 : Int)).snd.fst, ()) ∧ NetSh ((wT ((wT ((nF (Int.toNat (2 : Int))).fst, (nF (Int.toNat (2 : Int))).snd.fst, ()) (0 : Int) (1 : Int) (5 : Int)).fst, (wT ((nF (Int.toNat (2 : Int))).fst, (nF (Int.toNat (2 : Int))).snd.fst, ()) (0 : Int) (1 : Int) (5 : Int)).snd.fst, ()) (1 : Int) (1 : Int) (6 : Int)).fst, (wT ((wT ((nF (Int.toNat (2 : Int))).fst, (nF (Int.toNat (2 : Int))).snd.fst, ()) (0 : Int) (1 : Int) (5 : Int)).fst, (wT ((nF (Int.toNat (2 : Int))).fst, (nF (Int.toNat (2 : Int))).snd.fst, ()) (0 : Int) (1 : Int) (5 : Int)).snd.fst, ()) (1 : Int) (1 : Int) (6 : Int)).snd.fst, ()) ∧ NetLen ((sT ((wT ((wT ((nF (Int.toNat (2 : Int))).fst, (nF (Int.toNat (2 : Int))).snd.fst, ()) (0 : Int) (1 : Int) (5 : Int)).fst, (wT ((nF (Int.toNat (2 : Int))).fst, (nF (Int.toNat (2 : Int))).snd.fst, ()) (0 : Int) (1 : Int) (5 : Int)).snd.fst, ()) (1 : Int) (1 : Int) (6 : Int)).fst, (wT ((wT ((nF (Int.toNat (2 : Int))).fst, (nF (Int.toNat (2 : Int))).snd.fst, ()) (0 : Int) (1 : Int) (5 : Int)).fst, (wT ((nF (Int.toNat (2 : Int))).fst, (nF (Int.toNat (2 : Int))).snd.fst, ()) (0 : Int) (1 : Int) (5 : Int)).snd.fst, ()) (1 : Int) (1 : Int) (6 : Int)).snd.fst, ()) (0 : Int) (1 : Int)).fst, (sT ((wT ((wT ((nF (Int.toNat (2 : Int))).fst, (nF (Int.toNat (2 : Int))).snd.fst, ()) (0 : Int) (1 : Int) (5 : Int)).fst, (wT ((nF (Int.toNat (2 : Int))).fst, (nF (Int.toNat (2 : Int))).snd.fst, ()) (0 : Int) (1 : Int) (5 : Int)).snd.fst, ()) (1 : Int) (1 : Int) (6 : Int)).fst, (wT ((wT ((nF (Int.toNat (2 : Int))).fst, (nF (Int.toNat (2 : Int))).snd.fst, ()) (0 : Int) (1 : Int) (5 : Int)).fst, (wT ((nF (Int.toNat (2 : Int))).fst, (nF (Int.toNat (2 : Int))).snd.fst, ()) (0 : Int) (1 : Int) (5 : Int)).snd.fst, ()) (1 : Int) (1 : Int) (6 : Int)).snd.fst, ()) (0 : Int) (1 : Int)).snd.fst, ()) ∧ (decide (wE ((nF (Int.toNat (2 : Int))).fst, (nF (Int.toNat (2 : Int))).snd.fst, ()) (0 : Int) (1 : Int) (5 : Int) = (0 : Int)) = true → (decide (wE ((wT ((nF (Int.toNat (2 : Int))).fst, (nF (Int.toNat (2 : Int))).snd.fst, ()) (0 : Int) (1 : Int) (5 : Int)).fst, (wT ((nF (Int.toNat (2 : Int))).fst, (nF (Int.toNat (2 : Int))).snd.fst, ()) (0 : Int) (1 : Int) (5 : Int)).snd.fst, ()) (1 : Int) (1 : Int) (6 : Int) = (0 : Int)) = true → (decide (sE ((wT ((wT ((nF (Int.toNat (2 : Int))).fst, (nF (Int.toNat (2 : Int))).snd.fst, ()) (0 : Int) (1 : Int) (5 : Int)).fst, (wT ((nF (Int.toNat (2 : Int))).fst, (nF (Int.toNat (2 : Int))).snd.fst, ()) (0 : Int) (1 : Int) (5 : Int)).snd.fst, ()) (1 : Int) (1 : Int) (6 : Int)).fst, (wT ((wT ((nF (Int.toNat (2 : Int))).fst, (nF (Int.toNat (2 : Int))).snd.fst, ()) (0 : Int) (1 : Int) (5 : Int)).fst, (wT ((nF (Int.toNat (2 : Int))).fst, (nF (Int.toNat (2 : Int))).snd.fst, ()) (0 : Int) (1 : Int) (5 : Int)).snd.fst, ()) (1 : Int) (1 : Int) (6 : Int)).snd.fst, ()) (0 : Int) (1 : Int) = (0 : Int)) = true → (decide ((↑(rF ((sT ((wT ((wT ((nF (Int.toNat (2 : Int))).fst, (nF (Int.toNat (2 : Int))).snd.fst, ()) (0 : Int) (1 : Int) (5 : Int)).fst, (wT ((nF (Int.toNat (2 : Int))).fst, (nF (Int.toNat (2 : Int))).snd.fst, ()) (0 : Int) (1 : Int) (5 : Int)).snd.fst, ()) (1 : Int) (1 : Int) (6 : Int)).fst, (wT ((wT ((nF (Int.toNat (2 : Int))).fst, (nF (Int.toNat (2 : Int))).snd.fst, ()) (0 : Int) (1 : Int) (5 : Int)).fst, (wT ((nF (Int.toNat (2 : Int))).fst, (nF (Int.toNat (2 : Int))).snd.fst, ()) (0 : Int) (1 : Int) (5 : Int)).snd.fst, ()) (1 : Int) (1 : Int) (6 : Int)).snd.fst, ()) (0 : Int) (1 : Int)).fst, (sT ((wT ((wT ((nF (Int.toNat (2 : Int))).fst, (nF (Int.toNat (2 : Int))).snd.fst, ()) (0 : Int) (1 : Int) (5 : Int)).fst, (wT ((nF (Int.toNat (2 : Int))).fst, (nF (Int.toNat (2 : Int))).snd.fst, ()) (0 : Int) (1 : Int) (5 : Int)).snd.fst, ()) (1 : Int) (1 : Int) (6 : Int)).fst, (wT ((wT ((nF (Int.toNat (2 : Int))).fst, (nF (Int.toNat (2 : Int))).snd.fst, ()) (0 : Int) (1 : Int) (5 : Int)).fst, (wT ((nF (Int.toNat (2 : Int))).fst, (nF (Int.toNat (2 : Int))).snd.fst, ()) (0 : Int) (1 : Int) (5 : Int)).snd.fst, ()) (1 : Int) (1 : Int) (6 : Int)).snd.fst, ()) (0 : Int) (1 : Int)).snd.fst, ()) (1 : Int) (1 : Int)).length : Int) = (2 : Int)) = true → (0 : Int) ≤ (0 : Int) ∧ (0 : Int) < (↑(rF ((sT ((wT ((wT ((nF (Int.toNat (2 : Int))).fst, (nF (Int.toNat (2 : Int))).snd.fst, ()) (0 : Int) (1 : Int) (5 : Int)).fst, (wT ((nF (Int.toNat (2 : Int))).fst, (nF (Int.toNat (2 : Int))).snd.fst, ()) (0 : Int) (1 : Int) (5 : Int)).snd.fst, ()) (1 : Int) (1 : Int) (6 : Int)).fst, (wT ((wT ((nF (Int.toNat (2 : Int))).fst, (nF (Int.toNat (2 : Int))).snd.fst, ()) (0 : Int) (1 : Int) (5 : Int)).fst, (wT ((nF (Int.toNat (2 : Int))).fst, (nF (Int.toNat (2 : Int))).snd.fst, ()) (0 : Int) (1 : Int) (5 : Int)).snd.fst, ()) (1 : Int) (1 : Int) (6 : Int)).snd.fst, ()) (0 : Int) (1 : Int)).fst, (sT ((wT ((wT ((nF (Int.toNat (2 : Int))).fst, (nF (Int.toNat (2 : Int))).snd.fst, ()) (0 : Int) (1 : Int) (5 : Int)).fst, (wT ((nF (Int.toNat (2 : Int))).fst, (nF (Int.toNat (2 : Int))).snd.fst, ()) (0 : Int) (1 : Int) (5 : Int)).snd.fst, ()) (1 : Int) (1 : Int) (6 : Int)).fst, (wT ((wT ((nF (Int.toNat (2 : Int))).fst, (nF (Int.toNat (2 : Int))).snd.fst, ()) (0 : Int) (1 : Int) (5 : Int)).fst, (wT ((nF (Int.toNat (2 : Int))).fst, (nF (Int.toNat (2 : Int))).snd.fst, ()) (0 : Int) (1 : Int) (5 : Int)).snd.fst, ()) (1 : Int) (1 : Int) (6 : Int)).snd.fst, ()) (0 : Int) (1 : Int)).snd.fst, ()) (1 : Int) (1 : Int)).length : Int) ∧ (decide (((rF ((sT ((wT ((wT ((nF (Int.toNat (2 : Int))).fst, (nF (Int.toNat (2 : Int))).snd.fst, ()) (0 : Int) (1 : Int) (5 : Int)).fst, (wT ((nF (Int.toNat (2 : Int))).fst, (nF (Int.toNat (2 : Int))).snd.fst, ()) (0 : Int) (1 : Int) (5 : Int)).snd.fst, ()) (1 : Int) (1 : Int) (6 : Int)).fst, (wT ((wT ((nF (Int.toNat (2 : Int))).fst, (nF (Int.toNat (2 : Int))).snd.fst, ()) (0 : Int) (1 : Int) (5 : Int)).fst, (wT ((nF (Int.toNat (2 : Int))).fst, (nF (Int.toNat (2 : Int))).snd.fst, ()) (0 : Int) (1 : Int) (5 : Int)).snd.fst, ()) (1 : Int) (1 : Int) (6 : Int)).snd.fst, ()) (0 : Int) (1 : Int)).fst, (sT ((wT ((wT ((nF (Int.toNat (2 : Int))).fst, (nF (Int.toNat (2 : Int))).snd.fst, ()) (0 : Int) (1 : Int) (5 : Int)).fst, (wT ((nF (Int.toNat (2 : Int))).fst, (nF (Int.toNat (2 : Int))).snd.fst, ()) (0 : Int) (1 : Int) (5 : Int)).snd.fst, ()) (1 : Int) (1 : Int) (6 : Int)).fst, (wT ((wT ((nF (Int.toNat (2 : Int))).fst, (nF (Int.toNat (2 : Int))).snd.fst, ()) (0 : Int) (1 : Int) (5 : Int)).fst, (wT ((nF (Int.toNat (2 : Int))).fst, (nF (Int.toNat (2 : Int))).snd.fst, ()) (0 : Int) (1 : Int) (5 : Int)).snd.fst, ()) (1 : Int) (1 : Int) (6 : Int)).snd.fst, ()) (0 : Int) (1 : Int)).snd.fst, ()) (1 : Int) (1 : Int)).getD (0 : Nat) va0).snd.fst = (6 : Int)) = true → (0 : Int) ≤ (1 : Int) ∧ (1 : Int) < (↑(rF ((sT ((wT ((wT ((nF (Int.toNat (2 : Int))).fst, (nF (Int.toNat (2 : Int))).snd.fst, ()) (0 : Int) (1 : Int) (5 : Int)).fst, (wT ((nF (Int.toNat (2 : Int))).fst, (nF (Int.toNat (2 : Int))).snd.fst, ()) (0 : Int) (1 : Int) (5 : Int)).snd.fst, ()) (1 : Int) (1 : Int) (6 : Int)).fst, (wT ((wT ((nF (Int.toNat (2 : Int))).fst, (nF (Int.toNat (2 : Int))).snd.fst, ()) (0 : Int) (1 : Int) (5 : Int)).fst, (wT ((nF (Int.toNat (2 : Int))).fst, (nF (Int.toNat (2 : Int))).snd.fst, ()) (0 : Int) (1 : Int) (5 : Int)).snd.fst, ()) (1 : Int) (1 : Int) (6 : Int)).snd.fst, ()) (0 : Int) (1 : Int)).fst, (sT ((wT ((wT ((nF (Int.toNat (2 : Int))).fst, (nF (Int.toNat (2 : Int))).snd.fst, ()) (0 : Int) (1 : Int) (5 : Int)).fst, (wT ((nF (Int.toNat (2 : Int))).fst, (nF (Int.toNat (2 : Int))).snd.fst, ()) (0 : Int) (1 : Int) (5 : Int)).snd.fst, ()) (1 : Int) (1 : Int) (6 : Int)).fst, (wT ((wT ((nF (Int.toNat (2 : Int))).fst, (nF (Int.toNat (2 : Int))).snd.fst, ()) (0 : Int) (1 : Int) (5 : Int)).fst, (wT ((nF (Int.toNat (2 : Int))).fst, (nF (Int.toNat (2 : Int))).snd.fst, ()) (0 : Int) (1 : Int) (5 : Int)).snd.fst, ()) (1 : Int) (1 : Int) (6 : Int)).snd.fst, ()) (0 : Int) (1 : Int)).snd.fst, ()) (1 : Int) (1 : Int)).length : Int) ∧ (decide (((rF ((sT ((wT ((wT ((nF (Int.toNat (2 : Int))).fst, (nF (Int.toNat (2 : Int))).snd.fst, ()) (0 : Int) (1 : Int) (5 : Int)).fst, (wT ((nF (Int.toNat (2 : Int))).fst, (nF (Int.toNat (2 : Int))).snd.fst, ()) (0 : Int) (1 : Int) (5 : Int)).snd.fst, ()) (1 : Int) (1 : Int) (6 : Int)).fst, (wT ((wT ((nF (Int.toNat (2 : Int))).fst, (nF (Int.toNat (2 : Int))).snd.fst, ()) (0 : Int) (1 : Int) (5 : Int)).fst, (wT ((nF (Int.toNat (2 : Int))).fst, (nF (Int.toNat (2 : Int))).snd.fst, ()) (0 : Int) (1 : Int) (5 : Int)).snd.fst, ()) (1 : Int) (1 : Int) (6 : Int)).snd.fst, ()) (0 : Int) (1 : Int)).fst, (sT ((wT ((wT ((nF (Int.toNat (2 : Int))).fst, (nF (Int.toNat (2 : Int))).snd.fst, ()) (0 : Int) (1 : Int) (5 : Int)).fst, (wT ((nF (Int.toNat (2 : Int))).fst, (nF (Int.toNat (2 : Int))).snd.fst, ()) (0 : Int) (1 : Int) (5 : Int)).snd.fst, ()) (1 : Int) (1 : Int) (6 : Int)).fst, (wT ((wT ((nF (Int.toNat (2 : Int))).fst, (nF (Int.toNat (2 : Int))).snd.fst, ()) (0 : Int) (1 : Int) (5 : Int)).fst, (wT ((nF (Int.toNat (2 : Int))).fst, (nF (Int.toNat (2 : Int))).snd.fst, ()) (0 : Int) (1 : Int) (5 : Int)).snd.fst, ()) (1 : Int) (1 : Int) (6 : Int)).snd.fst, ()) (0 : Int) (1 : Int)).snd.fst, ()) (1 : Int) (1 : Int)).getD (1 : Nat) va0).snd.fst = (5 : Int)) = true → NetLen ((sT ((wT ((wT ((nF (Int.toNat (2 : Int))).fst, (nF (Int.toNat (2 : Int))).snd.fst, ()) (0 : Int) (1 : Int) (5 : Int)).fst, (wT ((nF (Int.toNat (2 : Int))).fst, (nF (Int.toNat (2 : Int))).snd.fst, ()) (0 : Int) (1 : Int) (5 : Int)).snd.fst, ()) (1 : Int) (1 : Int) (6 : Int)).fst, (wT ((wT ((nF (Int.toNat (2 : Int))).fst, (nF (Int.toNat (2 : Int))).snd.fst, ()) (0 : Int) (1 : Int) (5 : Int)).fst, (wT ((nF (Int.toNat (2 : Int))).fst, (nF (Int.toNat (2 : Int))).snd.fst, ()) (0 : Int) (1 : Int) (5 : Int)).snd.fst, ()) (1 : Int) (1 : Int) (6 : Int)).snd.fst, ()) (0 : Int) (1 : Int)).fst, (sT ((wT ((wT ((nF (Int.toNat (2 : Int))).fst, (nF (Int.toNat (2 : Int))).snd.fst, ()) (0 : Int) (1 : Int) (5 : Int)).fst, (wT ((nF (Int.toNat (2 : Int))).fst, (nF (Int.toNat (2 : Int))).snd.fst, ()) (0 : Int) (1 : Int) (5 : Int)).snd.fst, ()) (1 : Int) (1 : Int) (6 : Int)).fst, (wT ((wT ((nF (Int.toNat (2 : Int))).fst, (nF (Int.toNat (2 : Int))).snd.fst, ()) (0 : Int) (1 : Int) (5 : Int)).fst, (wT ((nF (Int.toNat (2 : Int))).fst, (nF (Int.toNat (2 : Int))).snd.fst, ()) (0 : Int) (1 : Int) (5 : Int)).snd.fst, ()) (1 : Int) (1 : Int) (6 : Int)).snd.fst, ()) (0 : Int) (1 : Int)).snd.fst, ()) ∧ k [Dat.mk Ty.bool (decide ((↑(rF ((sT ((wT ((wT ((nF (Int.toNat (2 : Int))).fst, (nF (Int.toNat (2 : Int))).snd.fst, ()) (0 : Int) (1 : Int) (5 : Int)).fst, (wT ((nF (Int.toNat (2 : Int))).fst, (nF (Int.toNat (2 : Int))).snd.fst, ()) (0 : Int) (1 : Int) (5 : Int)).snd.fst, ()) (1 : Int) (1 : Int) (6 : Int)).fst, (wT ((wT ((nF (Int.toNat (2 : Int))).fst, (nF (Int.toNat (2 : Int))).snd.fst, ()) (0 : Int) (1 : Int) (5 : Int)).fst, (wT ((nF (Int.toNat (2 : Int))).fst, (nF (Int.toNat (2 : Int))).snd.fst, ()) (0 : Int) (1 : Int) (5 : Int)).snd.fst, ()) (1 : Int) (1 : Int) (6 : Int)).snd.fst, ()) (0 : Int) (1 : Int)).fst, (sT ((wT ((wT ((nF (Int.toNat (2 : Int))).fst, (nF (Int.toNat (2 : Int))).snd.fst, ()) (0 : Int) (1 : Int) (5 : Int)).fst, (wT ((nF (Int.toNat (2 : Int))).fst, (nF (Int.toNat (2 : Int))).snd.fst, ()) (0 : Int) (1 : Int) (5 : Int)).snd.fst, ()) (1 : Int) (1 : Int) (6 : Int)).fst, (wT ((wT ((nF (Int.toNat (2 : Int))).fst, (nF (Int.toNat (2 : Int))).snd.fst, ()) (0 : Int) (1 : Int) (5 : Int)).fst, (wT ((nF (Int.toNat (2 : Int))).fst, (nF (Int.toNat (2 : Int))).snd.fst, ()) (0 : Int) (1 : Int) (5 : Int)).snd.fst, ()) (1 : Int) (1 : Int) (6 : Int)).snd.fst, ()) (0 : Int) (1 : Int)).snd.fst, ()) (0 : Int) (1 : Int)).length : Int) = (1 : Int)))]) ∧ (decide (((rF ((sT ((wT ((wT ((nF (Int.toNat (2 : Int))).fst, (nF (Int.toNat (2 : Int))).snd.fst, ()) (0 : Int) (1 : Int) (5 : Int)).fst, (wT ((nF (Int.toNat (2 : Int))).fst, (nF (Int.toNat (2 : Int))).snd.fst, ()) (0 : Int) (1 : Int) (5 : Int)).snd.fst, ()) (1 : Int) (1 : Int) (6 : Int)).fst, (wT ((wT ((nF (Int.toNat (2 : Int))).fst, (nF (Int.toNat (2 : Int))).snd.fst, ()) (0 : Int) (1 : Int) (5 : Int)).fst, (wT ((nF (Int.toNat (2 : Int))).fst, (nF (Int.toNat (2 : Int))).snd.fst, ()) (0 : Int) (1 : Int) (5 : Int)).snd.fst, ()) (1 : Int) (1 : Int) (6 : Int)).snd.fst, ()) (0 : Int) (1 : Int)).fst, (sT ((wT ((wT ((nF (Int.toNat (2 : Int))).fst, (nF (Int.toNat (2 : Int))).snd.fst, ()) (0 : Int) (1 : Int) (5 : Int)).fst, (wT ((nF (Int.toNat (2 : Int))).fst, (nF (Int.toNat (2 : Int))).snd.fst, ()) (0 : Int) (1 : Int) (5 : Int)).snd.fst, ()) (1 : Int) (1 : Int) (6 : Int)).fst, (wT ((wT ((nF (Int.toNat (2 : Int))).fst, (nF (Int.toNat (2 : Int))).snd.fst, ()) (0 : Int) (1 : Int) (5 : Int)).fst, (wT ((nF (Int.toNat (2 : Int))).fst, (nF (Int.toNat (2 : Int))).snd.fst, ()) (0 : Int) (1 : Int) (5 : Int)).snd.fst, ()) (1 : Int) (1 : Int) (6 : Int)).snd.fst, ()) (0 : Int) (1 : Int)).snd.fst, ()) (1 : Int) (1 : Int)).getD (1 : Nat) va0).snd.fst = (5 : Int)) = false → k [Dat.mk Ty.bool false])) ∧ (decide (((rF ((sT ((wT ((wT ((nF (Int.toNat (2 : Int))).fst, (nF (Int.toNat (2 : Int))).snd.fst, ()) (0 : Int) (1 : Int) (5 : Int)).fst, (wT ((nF (Int.toNat (2 : Int))).fst, (nF (Int.toNat (2 : Int))).snd.fst, ()) (0 : Int) (1 : Int) (5 : Int)).snd.fst, ()) (1 : Int) (1 : Int) (6 : Int)).fst, (wT ((wT ((nF (Int.toNat (2 : Int))).fst, (nF (Int.toNat (2 : Int))).snd.fst, ()) (0 : Int) (1 : Int) (5 : Int)).fst, (wT ((nF (Int.toNat (2 : Int))).fst, (nF (Int.toNat (2 : Int))).snd.fst, ()) (0 : Int) (1 : Int) (5 : Int)).snd.fst, ()) (1 : Int) (1 : Int) (6 : Int)).snd.fst, ()) (0 : Int) (1 : Int)).fst, (sT ((wT ((wT ((nF (Int.toNat (2 : Int))).fst, (nF (Int.toNat (2 : Int))).snd.fst, ()) (0 : Int) (1 : Int) (5 : Int)).fst, (wT ((nF (Int.toNat (2 : Int))).fst, (nF (Int.toNat (2 : Int))).snd.fst, ()) (0 : Int) (1 : Int) (5 : Int)).snd.fst, ()) (1 : Int) (1 : Int) (6 : Int)).fst, (wT ((wT ((nF (Int.toNat (2 : Int))).fst, (nF (Int.toNat (2 : Int))).snd.fst, ()) (0 : Int) (1 : Int) (5 : Int)).fst, (wT ((nF (Int.toNat (2 : Int))).fst, (nF (Int.toNat (2 : Int))).snd.fst, ()) (0 : Int) (1 : Int) (5 : Int)).snd.fst, ()) (1 : Int) (1 : Int) (6 : Int)).snd.fst, ()) (0 : Int) (1 : Int)).snd.fst, ()) (1 : Int) (1 : Int)).getD (0 : Nat) va0).snd.fst = (6 : Int)) = false → k [Dat.mk Ty.bool false])) ∧ (decide ((↑(rF ((sT ((wT ((wT ((nF (Int.toNat (2 : Int))).fst, (nF (Int.toNat (2 : Int))).snd.fst, ()) (0 : Int) (1 : Int) (5 : Int)).fst, (wT ((nF (Int.toNat (2 : Int))).fst, (nF (Int.toNat (2 : Int))).snd.fst, ()) (0 : Int) (1 : Int) (5 : Int)).snd.fst, ()) (1 : Int) (1 : Int) (6 : Int)).fst, (wT ((wT ((nF (Int.toNat (2 : Int))).fst, (nF (Int.toNat (2 : Int))).snd.fst, ()) (0 : Int) (1 : Int) (5 : Int)).fst, (wT ((nF (Int.toNat (2 : Int))).fst, (nF (Int.toNat (2 : Int))).snd.fst, ()) (0 : Int) (1 : Int) (5 : Int)).snd.fst, ()) (1 : Int) (1 : Int) (6 : Int)).snd.fst, ()) (0 : Int) (1 : Int)).fst, (sT ((wT ((wT ((nF (Int.toNat (2 : Int))).fst, (nF (Int.toNat (2 : Int))).snd.fst, ()) (0 : Int) (1 : Int) (5 : Int)).fst, (wT ((nF (Int.toNat (2 : Int))).fst, (nF (Int.toNat (2 : Int))).snd.fst, ()) (0 : Int) (1 : Int) (5 : Int)).snd.fst, ()) (1 : Int) (1 : Int) (6 : Int)).fst, (wT ((wT ((nF (Int.toNat (2 : Int))).fst, (nF (Int.toNat (2 : Int))).snd.fst, ()) (0 : Int) (1 : Int) (5 : Int)).fst, (wT ((nF (Int.toNat (2 : Int))).fst, (nF (Int.toNat (2 : Int))).snd.fst, ()) (0 : Int) (1 : Int) (5 : Int)).snd.fst, ()) (1 : Int) (1 : Int) (6 : Int)).snd.fst, ()) (0 : Int) (1 : Int)).snd.fst, ()) (1 : Int) (1 : Int)).length : Int) = (2 : Int)) = false → k [Dat.mk Ty.bool false])) ∧ (decide (sE ((wT ((wT ((nF (Int.toNat (2 : Int))).fst, (nF (Int.toNat (2 : Int))).snd.fst, ()) (0 : Int) (1 : Int) (5 : Int)).fst, (wT ((nF (Int.toNat (2 : Int))).fst, (nF (Int.toNat (2 : Int))).snd.fst, ()) (0 : Int) (1 : Int) (5 : Int)).snd.fst, ()) (1 : Int) (1 : Int) (6 : Int)).fst, (wT ((wT ((nF (Int.toNat (2 : Int))).fst, (nF (Int.toNat (2 : Int))).snd.fst, ()) (0 : Int) (1 : Int) (5 : Int)).fst, (wT ((nF (Int.toNat (2 : Int))).fst, (nF (Int.toNat (2 : Int))).snd.fst, ()) (0 : Int) (1 : Int) (5 : Int)).snd.fst, ()) (1 : Int) (1 : Int) (6 : Int)).snd.fst, ()) (0 : Int) (1 : Int) = (0 : Int)) = false → k [Dat.mk Ty.bool false])) ∧ (decide (wE ((wT ((nF (Int.toNat (2 : Int))).fst, (nF (Int.toNat (2 : Int))).snd.fst, ()) (0 : Int) (1 : Int) (5 : Int)).fst, (wT ((nF (Int.toNat (2 : Int))).fst, (nF (Int.toNat (2 : Int))).snd.fst, ()) (0 : Int) (1 : Int) (5 : Int)).snd.fst, ()) (1 : Int) (1 : Int) (6 : Int) = (0 : Int)) = false → k [Dat.mk Ty.bool false])) ∧ (decide (wE ((nF (Int.toNat (2 : Int))).fst, (nF (Int.toNat (2 : Int))).snd.fst, ()) (0 : Int) (1 : Int) (5 : Int) = (0 : Int)) = false → k [Dat.mk Ty.bool false])))) := by kernel_rfl
end Go.Proofs.Ytgcliogognkdkaa

/- Nets: reading, playing and telling around keep their contracts. -/
namespace Go.Vc
open Go.RowKit
/-- A nil slice that comes back may be seen as a row without elements, whatever was handed in; the objects are named by s. -/
theorem own_nilrowK [Dn] {P : Program} {gl : List (Nat × Dat)} {f : FuncId} {oc oc' : OCtr} (h : OwnOk P gl f oc) (e : TypeId) (t : Ty) (σ : List Nat) (hσ : σ.Nodup)
    (h' : ∀ args ob k, oc' args ob k → (∀ i, i < keptN args → σ.getD i 0 = i) ∧ oc args ob (fun s ob' => match s with
      | .nils => keptN args ≤ ob'.length ∧ k (reS σ (.os ob'.length)) (σ.map fun i => reO σ ((ob' ++ [Ob.row e t []]).getD i .dead))
      | s => k s ob')) : OwnOk P gl f oc' := by
  intro args ob k hc w M R0 A vals hB hrd I
  obtain ⟨hs, hc⟩ := h' _ _ _ hc
  refine (h _ _ _ hc w M R0 A vals hB hrd I).mono ?_
  rintro x w' ⟨v, s, ob1, A', rfl, hk, I2, hkeep⟩
  split at hk
  · obtain ⟨hkn, hk⟩ := hk
    have hv : v = .slice none 0 0 := I2.tm 0 .nils rfl
    subst hv
    have hnum : A'.n = ob1.length := I2.num
    have hI := (I2.add none (fun _ => .slice none 0 0) (fun b => (Value.slice none 0 0).ownBlock = some b) (nilOb e (.d t)) (Same.refl w') (fun _ _ _ => rfl) (fun b hb => by simp [Value.ownBlock] at hb) (fun hro =>
          nilOb_ok e (.d t) (Asg.push_η ..) (Asg.push_κ ..))).put (d := some 0) (s := .os ob1.length) (v := .slice none 0 0) ⟨by simp [Asg.pushT, hnum], by rw [← hnum, Asg.push_η]⟩
    refine ⟨.slice none 0 0, _, _, _, rfl, hk, hI.re hσ, fun i hi => ?_⟩
    rw [← hkeep i hi]
    simp only [Asg.re]
    rw [hs i hi]
    simp only [Asg.pushT]
    rw [if_neg (by omega)]
  · exact ⟨v, _, _, A', rfl, hk, I2, hkeep⟩
end Go.Vc
namespace Go.Proofs.Ytgcliogognkdkaa
open Go.Vc Go.Proofs

theorem readO_vc (nd : List (List (List Va))) (wr : List Int) (p q : Int) (hN : NetLen (nd, wr, ())) (k : SV → List Ob → Prop)
    (h1 : inNet (nd, wr, ()) p q = false → k .nils [.st 77 [.os 1, .os 2], .row 74 tRow nd, .row 3 I wr])
    (h2 : inNet (nd, wr, ()) p q = true → k (.os 1) [.st 77 [.os 2, .os 3], .row 52 tV (valsAt (nd, wr, ()) p q), .row 74 tRow nd, .row 3 I wr]) :
    vcO ⟨Eg, [(39, cCloneI), (40, cIs)], [], [], []⟩ (anReadO (nd, wr, ()) p q) (Try.f24.body.getD .skip) Try.f24.ntmps [(.tmp 6, .un)] [.ps 0, .d I p, .d I q] [.st 77 [.os 1, .os 2], .row 74 tRow nd, .row 3 I wr] k := by
  rw [vcReadO]
  have e0 : (List.getD nd p.toNat (List.replicate 4 [])).getD q.toNat [] = valsAt (nd, wr, ()) p q := rfl
  have e1 : ∀ y : Va, (List.replicate 1 va0).set 0 y = [y] := fun _ => rfl
  have ea : ∀ (m n : List Va), List.append m n = m ++ n := fun _ _ => rfl
  have e2 : ∀ y : Va, (y.1, y.2.1, ()) = y := fun _ => rfl
  simp only [e0, e1, ea, e2, decide_eq_true_eq, decide_eq_false_iff_not, true_and, and_true, Bool.not_eq_true', Bool.not_eq_false', Int.toNat_natCast, inK_i64]
  refine ⟨h1, fun h => ?_⟩
  have hin := inNet_iff.1 h
  have hin1 : p < (nd.length : Int) := hin.1.2
  have hr : (List.getD nd p.toNat (List.replicate 4 [])) ∈ nd := getD_memL (by omega)
  obtain ⟨hr4, hrl⟩ := hN.1 _ hr
  have hv : valsAt (nd, wr, ()) p q ∈ (List.getD nd p.toNat (List.replicate 4 [])) := getD_memL (by rw [hr4]; omega)
  obtain ⟨hl1, hl2⟩ := hrl _ hv
  refine ⟨hin.1.1, hin1, hin.2.1, by omega, ⟨0, ⟨Nat.zero_le _, h⟩, rfl, rfl⟩, fun x ⟨hx, _⟩ => ⟨fun hlt => ?_, fun hge => ?_⟩⟩
  · have hxl : x < (valsAt (nd, wr, ()) p q).length := by omega
    have := hl2 _ (getD_memL (d := va0) hxl)
    refine ⟨by omega, hlt, by omega, ?_, by omega, x + 1, ⟨by omega, h⟩, by omega, by omega, ?_⟩
    · rw [List.length_take]; simp only [List.length_cons, List.length_nil]; omega
    · rw [List.take_succ_eq_append_getElem hxl, List.getD_eq_getElem?_getD, List.getElem?_eq_getElem hxl]; rfl
  · have : x = (valsAt (nd, wr, ()) p q).length := by omega
    rw [this, List.take_length]; exact h2 h
theorem ownRead : OwnOk Try.prog [] 24 oRead := by
  refine own_nilrowK (oc := fun args ob k => ∃ (p q : Int) (nd : List (List (List Va))) (wr : List Int), args = [.ps 0, .d I p, .d I q] ∧ ob = [.st 77 [.os 1, .os 2], .row 74 tRow nd, .row 3 I wr] ∧ NetLen (nd, wr, ()) ∧
      (inNet (nd, wr, ()) p q = false → k .nils [.st 77 [.os 1, .os 2], .row 74 tRow nd, .row 3 I wr]) ∧
      (inNet (nd, wr, ()) p q = true → k (.os 1) [.st 77 [.os 2, .os 3], .row 52 tV (valsAt (nd, wr, ()) p q), .row 74 tRow nd, .row 3 I wr])) ?_ 52 tV [0, 3, 1, 2] (by decide) ?_
  · refine own_of (CxOk.mk' Eg_ok (by kernel_rfl) mixed (gl := []) (GOk.cons okCloneI Try.func39 (by kernel_rfl) (by kernel_rfl) (GOk.cons okIs Try.func40 (by kernel_rfl) (by kernel_rfl) GOk.nil)) GoOk.nil noIt) Try.func24 (c := Try.f24.body.getD .skip) (rvs := [(.tmp 6, .un)]) (by kernel_rfl) (by kernel_rfl) (by kernel_rfl) ?_
    rintro args ob k ⟨p, q, nd, wr, rfl, rfl, hN, h1, h2⟩ hwa hwo
    exact ⟨anReadO (nd, wr, ()) p q, readO_vc nd wr p q hN k h1 h2⟩
  · intro args ob k h
    unfold oRead at h
    split at h
    · rename_i p q nd wr
      obtain ⟨hN, hk⟩ := h
      refine ⟨fun i hi => ?_, p, q, nd, wr, rfl, rfl, hN, fun hb => ⟨show 1 ≤ 3 from by decide, ?_⟩, fun hb => ?_⟩
      · have : i < 1 := hi
        have : i = 0 := by omega
        subst this; rfl
      · unfold readF at hk; rw [if_neg (by rw [hb]; decide)] at hk; exact hk
      · unfold readF at hk; rw [if_pos hb] at hk; exact hk
    · exact h.elim

/-! The closed fact. -/
theorem net_eta (t : Net) : (t.1, t.2.1, ()) = t := rfl
theorem fact_vc (rF : Net → Int → Int → List Va) (sT : Net → Int → Int → Net) (sE : Net → Int → Int → Int) (wT : Net → Int → Int → Int → Net) (wE : Net → Int → Int → Int → Int) (nF : Nat → Net) (t0 t1 t2 t3 : Net)
    (h0 : nF 2 = t0) (h1 : wT t0 0 1 5 = t1) (h2 : wT t1 1 1 6 = t2) (h3 : sT t2 0 1 = t3) (s0 : NetSh t0) (s1 : NetSh t1) (s2 : NetSh t2) (s3 : NetLen t3) (w0 : wE t0 0 1 5 = 0) (w1 : wE t1 1 1 6 = 0) (y : sE t2 0 1 = 0)
    (l : (rF t3 1 1).length = 2) (l0 : ((rF t3 1 1).getD 0 va0).2.1 = 6) (l1 : ((rF t3 1 1).getD 1 va0).2.1 = 5) (l2 : (rF t3 0 1).length = 1) (k : List Dat → Prop) (hk : k [⟨.bool, true⟩]) :
    vcF ⟨Eg, [], [], [], [(24, oReadG rF), (26, oSyncG sT sE), (28, oWriteG wT wE), (29, oNewG nF)]⟩ [joinAll] (Try.f22.body.getD .skip) Try.f22.ntmps [(.tmp 0, .bool)] [] k := by
  rw [vcFactG]
  have t2' : Int.toNat 2 = 2 := rfl
  have hb : inB 2 1 5 = true := by decide
  have i0 : Int.toNat 0 = 0 := rfl
  have i1 : Int.toNat 1 = 1 := rfl
  have c2 : decide (((2 : Nat) : Int) = 2) = true := rfl
  have c1 : decide (((1 : Nat) : Int) = 1) = true := rfl
  simp only [t2', i0, i1, c1, c2, net_eta, h0, h1, h2, h3, w0, w1, y, l, l0, l1, l2, hb, s0, s1, s2, s3, decide_true, Bool.not_true, Bool.true_eq_false, Bool.false_eq_true, false_implies, forall_const, true_and, and_true]
  refine ⟨by omega, by omega, by omega, by omega, hk⟩
theorem netF0 : ∃ H, NInv 2 (fun _ _ => True) H (newF 2) := ⟨_, NInv.init _ (by decide) (by decide)⟩
theorem netF1 : ∃ H, NInv 2 (fun _ _ => True) H (writeT (newF 2) 0 1 5) := netF0.elim fun _ I => I.write _ _ _ fun _ => trivial
theorem netF2 : ∃ H, NInv 2 (fun _ _ => True) H (writeT (writeT (newF 2) 0 1 5) 1 1 6) := netF1.elim fun _ I => I.write _ _ _ fun _ => trivial
theorem netF3 : ∃ H, NInv 2 (fun _ _ => True) H (syncT (writeT (writeT (newF 2) 0 1 5) 1 1 6) 0 1) := netF2.elim fun H I => ⟨H, I.sync _ _⟩
theorem okFactG : PlainOk Try.prog [] 22 cFactG := by
  refine plain_of (CxOk.mk' Eg_ok (by kernel_rfl) mixed (gl := []) GOk.nil (GoOk.cons (c := oReadG readF) ownRead Try.func24 (by kernel_rfl) (by kernel_rfl) (GoOk.cons (c := oSyncG syncT syncE) ownSync Try.func26 (by kernel_rfl) (by kernel_rfl) (GoOk.cons (c := oWriteG writeT writeE) ownWrite Try.func28 (by kernel_rfl) (by kernel_rfl) (GoOk.cons (c := oNewG newF) ownNew Try.func29 (by kernel_rfl) (by kernel_rfl) GoOk.nil)))) noIt) Try.func22 (c := Try.f22.body.getD .skip) (rvs := [(.tmp 0, .bool)]) (by kernel_rfl) (by kernel_rfl) (by kernel_rfl) ?_
  intro ds k ⟨hp, hk⟩ hwf
  obtain ⟨H0, I0⟩ := netF0
  obtain ⟨H1, I1⟩ := netF1
  obtain ⟨H2, I2⟩ := netF2
  obtain ⟨H3, I3⟩ := netF3
  obtain ⟨rfl, -⟩ := dest0 hp
  exact ⟨[joinAll], fact_vc readF syncT syncE writeT writeE newF _ _ _ _ rfl rfl rfl rfl I0.sh I1.sh I2.sh I3.nlen (by kernel_rfl) (by kernel_rfl) (by kernel_rfl) (by kernel_rfl) (by kernel_rfl) (by kernel_rfl) (by kernel_rfl) k hk⟩

/-! What is played. -/
/-- it was written in the steps -/
def WS (steps : List (List Int)) (k : Nat) (v : Int) : Prop := ∃ s, s < steps.length ∧ s < 60 ∧ (steps.getD s []).length = 3 ∧ (steps.getD s []).getD 1 0 = (k : Int) ∧ (steps.getD s []).getD 2 0 = v
theorem writeE_in {t : Net} {p q v : Int} (h : writeE t p q v = 0) : inNet t p q = true := by
  unfold writeE at h
  split at h
  · rename_i hb; rw [Bool.and_eq_true] at hb; exact hb.1
  · cases h
theorem play_inv {n : Nat} (h1 : 1 ≤ n) (h5 : n ≤ 5) (steps : List (List Int)) : ∀ i, i ≤ steps.length → i ≤ 60 → ∃ H, NInv n (WS steps) H (playF n steps i)
  | 0, _, _ => ⟨_, NInv.init _ h1 h5⟩
  | i + 1, hi, h60 => by
    obtain ⟨H, I⟩ := play_inv h1 h5 steps i (by omega) (by omega)
    show ∃ H, NInv n (WS steps) H (stepT (playF n steps i) (steps.getD i []))
    unfold stepT
    split
    · rename_i h3
      refine I.write _ _ _ fun hw => ⟨i, by omega, by omega, h3, ?_, rfl⟩
      have := (inNet_iff.1 (writeE_in hw)).2.1
      omega
    · split
      · exact ⟨H, I.sync _ _⟩
      · exact ⟨H, I⟩
theorem inB5 {n : Int} (h : inB n 1 5 = true) : 1 ≤ n.toNat ∧ n.toNat ≤ 5 ∧ 1 ≤ n ∧ n ≤ 5 := by
  unfold inB at h
  simp only [Bool.and_eq_true, decide_eq_true_eq] at h; omega
theorem playN_inv {n : Int} (h : inB n 1 5 = true) (steps : List (List Int)) {m : Nat} (hm : m ≤ 60) : ∃ H, NInv n.toNat (WS steps) H (playN n steps m) :=
  play_inv (inB5 h).1 (inB5 h).2.1 steps _ (Nat.min_le_left ..) (Nat.le_trans (Nat.min_le_right ..) hm)
theorem step3 {t : Net} {l : List Int} (h : l.length = 3) : stepT t l = writeT t (l.getD 0 0) (l.getD 1 0) (l.getD 2 0) := by unfold stepT; rw [if_pos h]
theorem step2 {t : Net} {l : List Int} (h : l.length = 2) : stepT t l = syncT t (l.getD 0 0) (l.getD 1 0) := by unfold stepT; rw [if_neg (by omega), if_pos h]
theorem step0 {t : Net} {l : List Int} (h3 : ¬ l.length = 3) (h2 : ¬ l.length = 2) : stepT t l = t := by unfold stepT; rw [if_neg h3, if_neg h2]
theorem play_succ (n : Nat) (s : List (List Int)) (i : Nat) : playF n s (i + 1) = stepT (playF n s i) (s.getD i []) := rfl
theorem played_vc (n : Int) (s : List (List Int)) (hml : s.length ≤ maxLen) (k : SV → List Ob → Prop) (h1 : inB n 1 5 = false → k (.tp [.nilp, .d .bool false]) [])
    (h2 : inB n 1 5 = true → k (.tp [.ps 0, .d .bool true]) (obNet (playN n s 60))) :
    vcO ⟨Eg, [], [], [], [(26, oSync), (28, oWrite), (29, oNew)]⟩ (anPlayed n s) (Try.f23.body.getD .skip) Try.f23.ntmps [(.tmp 4, .un), (.tmp 5, .bool)] [.d I n, .d (.sl (.sl I)) s] [] k := by
  rw [vcPlayed]
  have hmx : maxLen ≤ 9223372036854775807 := by decide
  have i0 : Int.toNat 0 = 0 := rfl
  have i1 : Int.toNat 1 = 1 := rfl
  have i2 : Int.toNat 2 = 2 := rfl
  simp only [i0, i1, i2, net_eta, decide_eq_true_eq, decide_eq_false_iff_not, Int.toNat_natCast, inK_i64, true_and, and_true, decide_true, decide_false, Bool.not_true, Bool.not_false, Bool.true_eq_false, Bool.false_eq_true, false_implies, forall_const, and_false, false_and]
  refine ⟨fun hb => ⟨fun _ => h1 hb, fun h => absurd h (by decide)⟩, fun hb => ⟨⟨0, ⟨⟨Nat.zero_le _, Nat.zero_le _⟩, hb⟩, rfl, rfl, rfl⟩, fun x ⟨⟨hx, hx60⟩, _⟩ => ?_⟩⟩
  have hfin : x = min s.length 60 → k (.tp [.ps 0, .d .bool true]) [.st 77 [.os 1, .os 2], .row 74 tRow (playF n.toNat s x).1, .row 3 I (playF n.toNat s x).2.1] := fun e => by
    rw [e]; exact h2 hb
  obtain ⟨H, I⟩ := play_inv (inB5 hb).1 (inB5 hb).2.1 s x hx hx60
  refine ⟨fun hlt => ⟨fun hlt60 => ⟨by omega, hlt, fun l3 => ⟨⟨by omega, by omega, by omega, by omega, by omega, by omega⟩, I.sh, fun l2 => absurd l3 (by omega), fun _ => ?_⟩, fun l3 => ⟨fun l2 => ⟨⟨by omega, by omega, by omega, by omega⟩, I.sh, ?_⟩, fun l2 => ?_⟩⟩, fun hge => hfin (by omega)⟩, fun hge => hfin (by omega)⟩
  · have e := step3 (t := playF n.toNat s x) (l := s.getD x []) (by omega)
    rw [← play_succ] at e
    exact ⟨by omega, x + 1, ⟨⟨by omega, by omega⟩, hb⟩, by omega, by omega, by rw [e], by rw [e]⟩
  · have e := step2 (t := playF n.toNat s x) (l := s.getD x []) (by omega)
    rw [← play_succ] at e
    exact ⟨by omega, x + 1, ⟨⟨by omega, by omega⟩, hb⟩, by omega, by omega, by rw [e], by rw [e]⟩
  · have e := step0 (t := playF n.toNat s x) (l := s.getD x []) (by omega) (by omega)
    rw [← play_succ] at e
    exact ⟨by omega, x + 1, ⟨⟨by omega, by omega⟩, hb⟩, by omega, by omega, by rw [e], by rw [e]⟩
theorem ownPlayed : OwnOk Try.prog [] 23 oPlayed := by
  refine own_of (CxOk.mk' Eg_ok (by kernel_rfl) mixed (gl := []) GOk.nil (GoOk.cons ownSync Try.func26 (by kernel_rfl) (by kernel_rfl) (GoOk.cons ownWrite Try.func28 (by kernel_rfl) (by kernel_rfl) (GoOk.cons ownNew Try.func29 (by kernel_rfl) (by kernel_rfl) GoOk.nil))) noIt) Try.func23 (c := Try.f23.body.getD .skip) (rvs := [(.tmp 4, .un), (.tmp 5, .bool)]) (by kernel_rfl) (by kernel_rfl) (by kernel_rfl) ?_
  intro args ob k h hwa hwo
  unfold oPlayed at h
  split at h
  · rename_i n s
    have hs : List.length s ≤ maxLen := (hwa (.d (.sl (.sl I)) s) (by simp)).1
    exact ⟨anPlayed n s, played_vc n s hs k h.1 h.2⟩
  · exact h.elim

/-! All tell all. -/
section
variable {n : Nat} {W : Nat → Int → Prop} {H : Nat → Nat → Va → Prop} {t : Net}
theorem NInv.arQ (I : NInv n W H t) (p : Nat) : ∀ q, NInv n W H (arQ p t q)
  | 0 => I
  | q + 1 => by
    unfold Ytgcliogognkdkaa.arQ
    split
    · exact (I.arQ p q).sync _ _
    · exact I.arQ p q
theorem NInv.arP (I : NInv n W H t) (m : Nat) : ∀ p, NInv n W H (arP m t p)
  | 0 => I
  | p + 1 => (I.arP m p).arQ p m
theorem NInv.arF (I : NInv n W H t) : NInv n W H (arF t) := I.arP _ _
theorem NInv.dnP (I : NInv n W H t) (m : Nat) : ∀ p, NInv n W H (dnP m t p)
  | 0 => I
  | p + 1 => (I.dnP m p).arQ _ m
theorem syncE0 (I : NInv n W H t) {a b : Nat} (ha : a < n) (hb : b < n) (hab : ¬ (a : Int) = (b : Int)) : syncE t (a : Int) (b : Int) = 0 := by
  have h1 : inNet t (a : Int) 0 = true := inNet_iff.2 (by rw [I.len]; omega)
  have h2 : inNet t (b : Int) 0 = true := inNet_iff.2 (by rw [I.len]; omega)
  unfold syncE; rw [h1, h2, Bool.and_true, if_pos rfl, if_neg hab]
end
theorem arQ_succ (p : Nat) (t : Net) (q : Nat) : arQ p t (q + 1) = if ¬ (p : Int) = (q : Int) then syncT (arQ p t q) (p : Int) (q : Int) else arQ p t q := rfl
theorem around_vc (nd : List (List (List Va))) (wr : List Int) (n : Int) (hI : NOk (nd, wr, ())) (hn : n = (nd.length : Int)) (k : SV → List Ob → Prop) (hk : k (.d .bool true) (obNet (arF (nd, wr, ())))) :
    vcO ⟨Eg, [], [], [], [(26, oSync)]⟩ (anAround (nd, wr, ())) (Try.f25.body.getD .skip) Try.f25.ntmps [(.tmp 4, .bool)] [.ps 0, .d I n] [.st 77 [.os 1, .os 2], .row 74 tRow nd, .row 3 I wr] k := by
  rw [vcAround]
  obtain ⟨W, H, I⟩ := hI
  replace I : NInv nd.length W H (nd, wr, ()) := I
  have h5 := I.hi
  simp only [net_eta, decide_eq_true_eq, decide_eq_false_iff_not, Int.toNat_natCast, inK_i64, true_and, and_true, Bool.not_eq_true', Bool.not_eq_false']
  refine ⟨⟨0, Nat.zero_le _, rfl, rfl, rfl⟩, fun x hx => ⟨fun hlt => ⟨⟨0, Nat.zero_le _, rfl, rfl, rfl⟩, fun y hy => ⟨fun hly => ?_, fun hgy => ?_⟩⟩, fun hge => ?_⟩⟩
  · have Ia := (I.arP nd.length x).arQ x y
    refine ⟨fun hne => ⟨Ia.sh, fun he => absurd (syncE0 Ia (by omega) (by omega) hne) he, fun he => ⟨by omega, y + 1, by omega, by omega, by omega, ?_⟩⟩, fun he => ⟨by omega, y + 1, by omega, by omega, by omega, ?_⟩⟩
    · rw [arQ_succ, if_pos hne]; exact ⟨rfl, rfl⟩
    · rw [arQ_succ, if_neg (by omega)]; exact ⟨rfl, rfl⟩
  · have : y = nd.length := by omega
    subst this
    exact ⟨by omega, x + 1, by omega, by omega, by omega, rfl, rfl⟩
  · have : x = nd.length := by omega
    subst this
    exact hk
theorem ownAround : OwnOk Try.prog [] 25 oAround := by
  refine own_of (CxOk.mk' Eg_ok (by kernel_rfl) mixed (gl := []) GOk.nil (GoOk.cons ownSync Try.func26 (by kernel_rfl) (by kernel_rfl) GoOk.nil) noIt) Try.func25 (c := Try.f25.body.getD .skip) (rvs := [(.tmp 4, .bool)]) (by kernel_rfl) (by kernel_rfl) (by kernel_rfl) ?_
  intro args ob k h hwa hwo
  unfold oAround at h
  split at h
  · rename_i n nd wr
    exact ⟨anAround (nd, wr, ()), around_vc nd wr n h.1.1 h.1.2 k h.2⟩
  · exact h.elim
end Go.Proofs.Ytgcliogognkdkaa

/- What the functions of this seat have to satisfy, by program: each verification condition in plain words. -/
namespace Go.Proofs.Ytgcliogognkdkaa
open Go.Vc
set_option linter.unusedVariables false
theorem vcSorted (xs : List Tag) (k : SV → List Ob → Prop) : vcO ⟨Eb, [], [], [], [(47, oSortT), (49, oCompact)]⟩ [] (Try.f30.body.getD .skip) Try.f30.ntmps [(.tmp 2, .un)] [.os 0] [.row 65 tT xs] k = (
  xs.length ≤ (1000000000 : Nat) ∧ ∀ (ys : List Tag), srtP xs ys → ys.length ≤ (1000000000 : Nat) ∧ k (SV.os (1 : Nat)) [Ob.dead, Ob.row (65 : Nat) (tT) (cpt ys)]) := by kernel_rfl
theorem vcAdd (b : Bag) (e n : Int) (k : List Dat → Prop) : vcF ⟨Ebw [6], [(13, cCheck), (35, cWithin)], [], [], [(36, oClone), (30, oSorted)]⟩ (anAdd b n) (Try.f14.body.getD .skip) Try.f14.ntmps [(.cell 6 24, tB), (.tmp 7, tErr)] [⟨tB, b⟩, ⟨I, e⟩, ⟨I, n⟩] k = (
  True ∧ ((!decide (chkB b = (0 : Int))) = true → k [Dat.mk (tB) ([], [], ()), Dat.mk (Ty.err (66 : Nat)) (chkB b)]) ∧ ((!decide (chkB b = (0 : Int))) = false → True ∧ ((!inB e (0 : Int) (9 : Int)) = true → (1 : Int) ≠ (0 : Int) ∧ k [Dat.mk (tB) ([], [], ()), Dat.mk (Ty.err (66 : Nat)) (1 : Int)]) ∧ ((!inB e (0 : Int) (9 : Int)) = false → True ∧ ((!inB n (0 : Int) (4 : Int)) = true → (1 : Int) ≠ (0 : Int) ∧ k [Dat.mk (tB) ([], [], ()), Dat.mk (Ty.err (66 : Nat)) (1 : Int)]) ∧ ((!inB n (0 : Int) (4 : Int)) = false → (∃ (x : Nat), (x ≤ b.fst.length ∧ chkB b = (0 : Int)) ∧ (e = e ∧ n = n ∧ ([] : List Nat) = [] ∧ True ∧ (0 : Int) = maxC b.fst n x ∧ b.fst = b.fst ∧ (↑(List.length b.fst) : Int) = (↑(List.length b.fst) : Int) ∧ (0 : Int) = (↑x : Int) ∧ True) ∧ (((24 : Nat) = (24 : Nat) ∧ b = b) ∧ (True ∧ True ∧ True) ∧ True) ∧ True) ∧ ∀ (x : Nat), x ≤ b.fst.length ∧ chkB b = (0 : Int) → (decide ((↑x : Int) < (↑(List.length b.fst) : Int)) = true → (0 : Int) ≤ (↑x : Int) ∧ (↑x : Int) < (↑(List.length b.fst) : Int) ∧ (decide ((List.getD b.fst (↑x : Int).toNat ((0 : Int), (0 : Int), (0 : Int), ())).snd.fst = n) = true → inK IntKind.i64 ((↑x : Int) + (1 : Int)) ∧ ∃ (x_1 : Nat), (x_1 ≤ b.fst.length ∧ chkB b = (0 : Int)) ∧ b.fst.length - x_1 < b.fst.length - x ∧ (e = e ∧ n = n ∧ ([] : List Nat) = [] ∧ True ∧ max (maxC b.fst n x) (List.getD b.fst (↑x : Int).toNat ((0 : Int), (0 : Int), (0 : Int), ())).snd.snd.fst = maxC b.fst n x_1 ∧ b.fst = b.fst ∧ (↑(List.length b.fst) : Int) = (↑(List.length b.fst) : Int) ∧ (↑x : Int) + (1 : Int) = (↑x_1 : Int) ∧ True) ∧ (((24 : Nat) = (24 : Nat) ∧ b = b) ∧ (True ∧ True ∧ True) ∧ True) ∧ True) ∧ (decide ((List.getD b.fst (↑x : Int).toNat ((0 : Int), (0 : Int), (0 : Int), ())).snd.fst = n) = false → inK IntKind.i64 ((↑x : Int) + (1 : Int)) ∧ ∃ (x_1 : Nat), (x_1 ≤ b.fst.length ∧ chkB b = (0 : Int)) ∧ b.fst.length - x_1 < b.fst.length - x ∧ (e = e ∧ n = n ∧ ([] : List Nat) = [] ∧ True ∧ maxC b.fst n x = maxC b.fst n x_1 ∧ b.fst = b.fst ∧ (↑(List.length b.fst) : Int) = (↑(List.length b.fst) : Int) ∧ (↑x : Int) + (1 : Int) = (↑x_1 : Int) ∧ True) ∧ (((24 : Nat) = (24 : Nat) ∧ b = b) ∧ (True ∧ True ∧ True) ∧ True) ∧ True)) ∧ (decide ((↑x : Int) < (↑(List.length b.fst) : Int)) = false → (decide ((↑(List.length b.fst) : Int) = (24 : Int)) = true → (4 : Int) ≠ (0 : Int) ∧ k [Dat.mk (tB) ([], [], ()), Dat.mk (Ty.err (66 : Nat)) (4 : Int)]) ∧ (decide ((↑(List.length b.fst) : Int) = (24 : Int)) = false → (decide (maxC b.fst n x = (1000000 : Int)) = true → (4 : Int) ≠ (0 : Int) ∧ k [Dat.mk (tB) ([], [], ()), Dat.mk (Ty.err (66 : Nat)) (4 : Int)]) ∧ (decide (maxC b.fst n x = (1000000 : Int)) = false → inK IntKind.i64 (maxC b.fst n x + (1 : Int)) ∧ True ∧ List.length b.fst ≤ (1000000000 : Nat) ∧ ((inK IntKind.i64 (maxC b.fst n x + (1 : Int)) ∧ maxC b.fst n x + (1 : Int) = maxC b.fst n x + (1 : Int)) ∧ (e, n, maxC b.fst n x + (1 : Int), ()) = (e, n, maxC b.fst n x + (1 : Int), ()) ∧ (List.replicate (1 : Nat) ((0 : Int), (0 : Int), (0 : Int), ())).set (0 : Nat) (e, n, maxC b.fst n x + (1 : Int), ()) = (List.replicate (1 : Nat) ((0 : Int), (0 : Int), (0 : Int), ())).set (0 : Nat) (e, n, maxC b.fst n x + (1 : Int), ()) ∧ SV.pv (tB) (0 : Nat) ([] ++ [(1 : Nat)]) = SV.pv (tB) (0 : Nat) ([] ++ [(1 : Nat)]) ∧ b.snd.fst = b.snd.fst ∧ True) ∧ List.length b.fst + ((List.replicate (1 : Nat) ((0 : Int), (0 : Int), (0 : Int), ())).set (0 : Nat) (e, n, maxC b.fst n x + (1 : Int), ())).length ≤ (1000000000 : Nat) ∧ (SV.pv (tB) (0 : Nat) ([] ++ [(1 : Nat)]) = SV.pv (tB) (0 : Nat) ([] ++ [(1 : Nat)]) ∧ b.snd.fst = b.snd.fst ∧ True) ∧ (List.append b.fst ((List.replicate (1 : Nat) ((0 : Int), (0 : Int), (0 : Int), ())).set (0 : Nat) (e, n, maxC b.fst n x + (1 : Int), ()))).length ≤ (1000000000 : Nat) ∧ (SV.pv (tB) (0 : Nat) ([] ++ [(1 : Nat)]) = SV.pv (tB) (0 : Nat) ([] ++ [(1 : Nat)]) ∧ b.snd.fst = b.snd.fst ∧ True) ∧ List.length b.snd.fst ≤ (1000000000 : Nat) ∧ True ∧ True ∧ k [Dat.mk (tB) (srt (List.append b.fst ((List.replicate (1 : Nat) ((0 : Int), (0 : Int), (0 : Int), ())).set (0 : Nat) (e, n, maxC b.fst n x + (1 : Int), ()))), b.snd.fst, ()), Dat.mk (Ty.err (66 : Nat)) (0 : Int)]))))))) := by kernel_rfl
theorem vcDrop (b : Bag) (e : Int) (k : List Dat → Prop) : vcF ⟨Ebw [4, 7], [(13, cCheck), (35, cWithin)], [], [], [(36, oClone), (30, oSorted)]⟩ (anDrop b e) (Try.f15.body.getD .skip) Try.f15.ntmps [(.cell 4 24, tB), (.tmp 5, tErr)] [⟨tB, b⟩, ⟨I, e⟩] k = (
  True ∧ ((!decide (chkB b = (0 : Int))) = true → k [Dat.mk (tB) ([], [], ()), Dat.mk (Ty.err (66 : Nat)) (chkB b)]) ∧ ((!decide (chkB b = (0 : Int))) = false → True ∧ ((!inB e (0 : Int) (9 : Int)) = true → (1 : Int) ≠ (0 : Int) ∧ k [Dat.mk (tB) ([], [], ()), Dat.mk (Ty.err (66 : Nat)) (1 : Int)]) ∧ ((!inB e (0 : Int) (9 : Int)) = false → (True ∧ (List.length b.fst ≤ (1000000000 : Nat) ∧ (SV.pv (tB) (0 : Nat) ([] ++ [(1 : Nat)]) = SV.pv (tB) (0 : Nat) ([] ++ [(1 : Nat)]) ∧ b.snd.fst = b.snd.fst ∧ True) ∧ (List.length b.snd.fst ≤ (1000000000 : Nat) ∧ True ∧ ((SV.ag [SV.os (2 : Nat), SV.os (3 : Nat)] = SV.ag [SV.os (2 : Nat), SV.os (3 : Nat)] ∧ True) ∧ (True ∧ ∃ (x : Unit), (dropE b e = (0 : Int) ∧ True) ∧ (e = e ∧ ([] : List Nat) = [] ∧ True ∧ True ∧ True) ∧ (((24 : Nat) = (24 : Nat) ∧ b = b) ∧ (True ∧ True ∧ True) ∧ ((65 : Nat) = (65 : Nat) ∧ b.fst = b.fst) ∧ ((65 : Nat) = (65 : Nat) ∧ b.snd.fst = b.snd.fst) ∧ (True ∧ True ∧ True) ∧ True) ∧ True) ∧ True) ∧ True ∧ True) ∧ ((SV.pv (tB) (0 : Nat) ([] ++ [(1 : Nat)]) = SV.pv (tB) (0 : Nat) ([] ++ [(1 : Nat)]) ∧ b.snd.fst = b.snd.fst ∧ True) ∧ (List.length b.snd.fst ≤ (1000000000 : Nat) ∧ True ∧ (True ∧ ∃ (x : Unit), (dropE b e = (0 : Int) ∧ True) ∧ (e = e ∧ ([] : List Nat) = [] ∧ True ∧ True ∧ True) ∧ (((24 : Nat) = (24 : Nat) ∧ b = b) ∧ (True ∧ True ∧ True) ∧ ((65 : Nat) = (65 : Nat) ∧ b.fst = b.fst) ∧ ((65 : Nat) = (65 : Nat) ∧ b.snd.fst = b.snd.fst) ∧ (True ∧ True ∧ True) ∧ True) ∧ True) ∧ True) ∧ True ∧ True) ∧ True ∧ True) ∧ True ∧ ((SV.pv (tB) (0 : Nat) ([] ++ [(0 : Nat)]) = SV.pv (tB) (0 : Nat) ([] ++ [(0 : Nat)]) ∧ b.fst = b.fst ∧ SV.pv (tB) (0 : Nat) ([] ++ [(1 : Nat)]) = SV.pv (tB) (0 : Nat) ([] ++ [(1 : Nat)]) ∧ b.snd.fst = b.snd.fst ∧ True) ∧ (List.length b.fst ≤ (1000000000 : Nat) ∧ (SV.pv (tB) (0 : Nat) ([] ++ [(1 : Nat)]) = SV.pv (tB) (0 : Nat) ([] ++ [(1 : Nat)]) ∧ b.snd.fst = b.snd.fst ∧ True) ∧ (List.length b.snd.fst ≤ (1000000000 : Nat) ∧ True ∧ (True ∧ ∃ (x : Unit), (dropE b e = (0 : Int) ∧ True) ∧ (e = e ∧ ([] : List Nat) = [] ∧ True ∧ True ∧ True) ∧ (((24 : Nat) = (24 : Nat) ∧ b = b) ∧ (True ∧ True ∧ True) ∧ ((65 : Nat) = (65 : Nat) ∧ b.fst = b.fst) ∧ ((65 : Nat) = (65 : Nat) ∧ b.snd.fst = b.snd.fst) ∧ (True ∧ True ∧ True) ∧ True) ∧ True) ∧ True) ∧ True ∧ True) ∧ True ∧ True ∧ True) ∧ True ∧ True) ∧ ∀ (x : Unit), dropE b e = (0 : Int) ∧ True → (∃ (x : Nat), (x ≤ b.fst.length ∧ dropE b e = (0 : Int)) ∧ (e = e ∧ ([] : List Nat) = [] ∧ True ∧ True ∧ b.fst = b.fst ∧ (↑(List.length b.fst) : Int) = (↑(List.length b.fst) : Int) ∧ (0 : Int) = (↑x : Int) ∧ True) ∧ (((24 : Nat) = (24 : Nat) ∧ b = b) ∧ (True ∧ True ∧ True) ∧ ((65 : Nat) = (65 : Nat) ∧ b.fst = b.fst) ∧ ((65 : Nat) = (65 : Nat) ∧ b.snd.fst = b.snd.fst ++ ofE (List.take x b.fst) e) ∧ (True ∧ True ∧ True) ∧ True) ∧ True) ∧ ∀ (x : Nat), x ≤ b.fst.length ∧ dropE b e = (0 : Int) → (decide ((↑x : Int) < (↑(List.length b.fst) : Int)) = true → (0 : Int) ≤ (↑x : Int) ∧ (↑x : Int) < (↑(List.length b.fst) : Int) ∧ (decide ((List.getD b.fst (↑x : Int).toNat ((0 : Int), (0 : Int), (0 : Int), ())).fst = e) = true → (b.snd.fst ++ ofE (List.take x b.fst) e).length + ((List.replicate (1 : Nat) ((0 : Int), (0 : Int), (0 : Int), ())).set (0 : Nat) (List.getD b.fst (↑x : Int).toNat ((0 : Int), (0 : Int), (0 : Int), ()))).length ≤ (1000000000 : Nat) ∧ inK IntKind.i64 ((↑x : Int) + (1 : Int)) ∧ ∃ (x_1 : Nat), (x_1 ≤ b.fst.length ∧ dropE b e = (0 : Int)) ∧ b.fst.length - x_1 < b.fst.length - x ∧ (e = e ∧ ([] : List Nat) = [] ∧ True ∧ True ∧ b.fst = b.fst ∧ (↑(List.length b.fst) : Int) = (↑(List.length b.fst) : Int) ∧ (↑x : Int) + (1 : Int) = (↑x_1 : Int) ∧ True) ∧ (((24 : Nat) = (24 : Nat) ∧ b = b) ∧ (True ∧ True ∧ True) ∧ ((65 : Nat) = (65 : Nat) ∧ b.fst = b.fst) ∧ ((65 : Nat) = (65 : Nat) ∧ (b.snd.fst ++ ofE (List.take x b.fst) e).append ((List.replicate (1 : Nat) ((0 : Int), (0 : Int), (0 : Int), ())).set (0 : Nat) (List.getD b.fst (↑x : Int).toNat ((0 : Int), (0 : Int), (0 : Int), ()))) = b.snd.fst ++ ofE (List.take x_1 b.fst) e) ∧ (True ∧ True ∧ True) ∧ True) ∧ True) ∧ (decide ((List.getD b.fst (↑x : Int).toNat ((0 : Int), (0 : Int), (0 : Int), ())).fst = e) = false → inK IntKind.i64 ((↑x : Int) + (1 : Int)) ∧ ∃ (x_1 : Nat), (x_1 ≤ b.fst.length ∧ dropE b e = (0 : Int)) ∧ b.fst.length - x_1 < b.fst.length - x ∧ (e = e ∧ ([] : List Nat) = [] ∧ True ∧ True ∧ b.fst = b.fst ∧ (↑(List.length b.fst) : Int) = (↑(List.length b.fst) : Int) ∧ (↑x : Int) + (1 : Int) = (↑x_1 : Int) ∧ True) ∧ (((24 : Nat) = (24 : Nat) ∧ b = b) ∧ (True ∧ True ∧ True) ∧ ((65 : Nat) = (65 : Nat) ∧ b.fst = b.fst) ∧ ((65 : Nat) = (65 : Nat) ∧ b.snd.fst ++ ofE (List.take x b.fst) e = b.snd.fst ++ ofE (List.take x_1 b.fst) e) ∧ (True ∧ True ∧ True) ∧ True) ∧ True)) ∧ (decide ((↑x : Int) < (↑(List.length b.fst) : Int)) = false → (b.snd.fst ++ ofE (List.take x b.fst) e).length ≤ (1000000000 : Nat) ∧ k [Dat.mk (tB) (b.fst, srt (b.snd.fst ++ ofE (List.take x b.fst) e), ()), Dat.mk (Ty.err (66 : Nat)) (0 : Int)])))) := by kernel_rfl
theorem vcJoin (a b : Bag) (k : List Dat → Prop) : vcF ⟨Ebw [4, 8], [(13, cCheck)], [], [], [(31, oConcat), (30, oSorted)]⟩ (anJoin a b) (Try.f11.body.getD .skip) Try.f11.ntmps [(.cell 4 24, tB), (.tmp 5, tErr)] [⟨tB, a⟩, ⟨tB, b⟩] k = (
  True ∧ ((!decide (chkB a = (0 : Int))) = true → k [Dat.mk (tB) ([], [], ()), Dat.mk (Ty.err (66 : Nat)) (chkB a)]) ∧ ((!decide (chkB a = (0 : Int))) = false → True ∧ ((!decide (chkB b = (0 : Int))) = true → k [Dat.mk (tB) ([], [], ()), Dat.mk (Ty.err (66 : Nat)) (chkB b)]) ∧ ((!decide (chkB b = (0 : Int))) = false → (True ∧ (sumL (((List.replicate (2 : Nat) []).set (0 : Nat) a.fst).set (1 : Nat) b.fst) (((List.replicate (2 : Nat) []).set (0 : Nat) a.fst).set (1 : Nat) b.fst).length ≤ (1000000000 : Nat) ∧ (SV.pv (tB) (0 : Nat) ([] ++ [(1 : Nat)]) = SV.pv (tB) (0 : Nat) ([] ++ [(1 : Nat)]) ∧ a.snd.fst = a.snd.fst ∧ SV.pv (tB) (1 : Nat) ([] ++ [(1 : Nat)]) = SV.pv (tB) (1 : Nat) ([] ++ [(1 : Nat)]) ∧ b.snd.fst = b.snd.fst ∧ ((List.replicate (2 : Nat) []).set (0 : Nat) a.snd.fst).set (1 : Nat) b.snd.fst = ((List.replicate (2 : Nat) []).set (0 : Nat) a.snd.fst).set (1 : Nat) b.snd.fst ∧ True) ∧ ((((List.replicate (2 : Nat) []).set (0 : Nat) a.fst).set (1 : Nat) b.fst).flatten.length ≤ (1000000000 : Nat) ∧ (SV.pv (tB) (0 : Nat) ([] ++ [(1 : Nat)]) = SV.pv (tB) (0 : Nat) ([] ++ [(1 : Nat)]) ∧ a.snd.fst = a.snd.fst ∧ SV.pv (tB) (1 : Nat) ([] ++ [(1 : Nat)]) = SV.pv (tB) (1 : Nat) ([] ++ [(1 : Nat)]) ∧ b.snd.fst = b.snd.fst ∧ ((List.replicate (2 : Nat) []).set (0 : Nat) a.snd.fst).set (1 : Nat) b.snd.fst = ((List.replicate (2 : Nat) []).set (0 : Nat) a.snd.fst).set (1 : Nat) b.snd.fst ∧ True) ∧ (sumL (((List.replicate (2 : Nat) []).set (0 : Nat) a.snd.fst).set (1 : Nat) b.snd.fst) (((List.replicate (2 : Nat) []).set (0 : Nat) a.snd.fst).set (1 : Nat) b.snd.fst).length ≤ (1000000000 : Nat) ∧ True ∧ ((((List.replicate (2 : Nat) []).set (0 : Nat) a.snd.fst).set (1 : Nat) b.snd.fst).flatten.length ≤ (1000000000 : Nat) ∧ True ∧ ((SV.ag [SV.os (4 : Nat), SV.os (6 : Nat)] = SV.ag [SV.os (4 : Nat), SV.os (6 : Nat)] ∧ True) ∧ (True ∧ ∃ (x : Unit), (chkB a = (0 : Int) ∧ chkB b = (0 : Int)) ∧ (True ∧ True ∧ True) ∧ ((True ∧ True ∧ True) ∧ ((65 : Nat) = (65 : Nat) ∧ srt (((List.replicate (2 : Nat) []).set (0 : Nat) a.fst).set (1 : Nat) b.fst).flatten = srt (a.fst ++ b.fst)) ∧ ((65 : Nat) = (65 : Nat) ∧ srt (((List.replicate (2 : Nat) []).set (0 : Nat) a.snd.fst).set (1 : Nat) b.snd.fst).flatten = srt (a.snd.fst ++ b.snd.fst)) ∧ (True ∧ True ∧ True) ∧ True) ∧ True) ∧ True) ∧ True ∧ True) ∧ (True ∧ ((((List.replicate (2 : Nat) []).set (0 : Nat) a.snd.fst).set (1 : Nat) b.snd.fst).flatten.length ≤ (1000000000 : Nat) ∧ True ∧ (True ∧ ∃ (x : Unit), (chkB a = (0 : Int) ∧ chkB b = (0 : Int)) ∧ (True ∧ True ∧ True) ∧ ((True ∧ True ∧ True) ∧ ((65 : Nat) = (65 : Nat) ∧ srt (((List.replicate (2 : Nat) []).set (0 : Nat) a.fst).set (1 : Nat) b.fst).flatten = srt (a.fst ++ b.fst)) ∧ ((65 : Nat) = (65 : Nat) ∧ srt (((List.replicate (2 : Nat) []).set (0 : Nat) a.snd.fst).set (1 : Nat) b.snd.fst).flatten = srt (a.snd.fst ++ b.snd.fst)) ∧ (True ∧ True ∧ True) ∧ True) ∧ True) ∧ True) ∧ True ∧ True) ∧ True ∧ True) ∧ True ∧ ((SV.pv (tB) (0 : Nat) ([] ++ [(1 : Nat)]) = SV.pv (tB) (0 : Nat) ([] ++ [(1 : Nat)]) ∧ a.snd.fst = a.snd.fst ∧ SV.pv (tB) (1 : Nat) ([] ++ [(1 : Nat)]) = SV.pv (tB) (1 : Nat) ([] ++ [(1 : Nat)]) ∧ b.snd.fst = b.snd.fst ∧ ((List.replicate (2 : Nat) []).set (0 : Nat) a.snd.fst).set (1 : Nat) b.snd.fst = ((List.replicate (2 : Nat) []).set (0 : Nat) a.snd.fst).set (1 : Nat) b.snd.fst ∧ True) ∧ (sumL (((List.replicate (2 : Nat) []).set (0 : Nat) a.snd.fst).set (1 : Nat) b.snd.fst) (((List.replicate (2 : Nat) []).set (0 : Nat) a.snd.fst).set (1 : Nat) b.snd.fst).length ≤ (1000000000 : Nat) ∧ True ∧ ((((List.replicate (2 : Nat) []).set (0 : Nat) a.snd.fst).set (1 : Nat) b.snd.fst).flatten.length ≤ (1000000000 : Nat) ∧ True ∧ (True ∧ ∃ (x : Unit), (chkB a = (0 : Int) ∧ chkB b = (0 : Int)) ∧ (True ∧ True ∧ True) ∧ ((True ∧ True ∧ True) ∧ ((65 : Nat) = (65 : Nat) ∧ srt (((List.replicate (2 : Nat) []).set (0 : Nat) a.fst).set (1 : Nat) b.fst).flatten = srt (a.fst ++ b.fst)) ∧ ((65 : Nat) = (65 : Nat) ∧ srt (((List.replicate (2 : Nat) []).set (0 : Nat) a.snd.fst).set (1 : Nat) b.snd.fst).flatten = srt (a.snd.fst ++ b.snd.fst)) ∧ (True ∧ True ∧ True) ∧ True) ∧ True) ∧ True) ∧ True ∧ True) ∧ True ∧ True ∧ True) ∧ True ∧ True) ∧ True ∧ True ∧ ((SV.pv (tB) (0 : Nat) ([] ++ [(1 : Nat)]) = SV.pv (tB) (0 : Nat) ([] ++ [(1 : Nat)]) ∧ a.snd.fst = a.snd.fst ∧ SV.pv (tB) (1 : Nat) ([] ++ [(1 : Nat)]) = SV.pv (tB) (1 : Nat) ([] ++ [(1 : Nat)]) ∧ b.snd.fst = b.snd.fst ∧ ((List.replicate (2 : Nat) []).set (0 : Nat) a.snd.fst).set (1 : Nat) b.snd.fst = ((List.replicate (2 : Nat) []).set (0 : Nat) a.snd.fst).set (1 : Nat) b.snd.fst ∧ True) ∧ ((((List.replicate (2 : Nat) []).set (0 : Nat) a.fst).set (1 : Nat) b.fst).flatten.length ≤ (1000000000 : Nat) ∧ (SV.pv (tB) (0 : Nat) ([] ++ [(1 : Nat)]) = SV.pv (tB) (0 : Nat) ([] ++ [(1 : Nat)]) ∧ a.snd.fst = a.snd.fst ∧ SV.pv (tB) (1 : Nat) ([] ++ [(1 : Nat)]) = SV.pv (tB) (1 : Nat) ([] ++ [(1 : Nat)]) ∧ b.snd.fst = b.snd.fst ∧ ((List.replicate (2 : Nat) []).set (0 : Nat) a.snd.fst).set (1 : Nat) b.snd.fst = ((List.replicate (2 : Nat) []).set (0 : Nat) a.snd.fst).set (1 : Nat) b.snd.fst ∧ True) ∧ (sumL (((List.replicate (2 : Nat) []).set (0 : Nat) a.snd.fst).set (1 : Nat) b.snd.fst) (((List.replicate (2 : Nat) []).set (0 : Nat) a.snd.fst).set (1 : Nat) b.snd.fst).length ≤ (1000000000 : Nat) ∧ True ∧ ((((List.replicate (2 : Nat) []).set (0 : Nat) a.snd.fst).set (1 : Nat) b.snd.fst).flatten.length ≤ (1000000000 : Nat) ∧ True ∧ (True ∧ ∃ (x : Unit), (chkB a = (0 : Int) ∧ chkB b = (0 : Int)) ∧ (True ∧ True ∧ True) ∧ ((True ∧ True ∧ True) ∧ ((65 : Nat) = (65 : Nat) ∧ srt (((List.replicate (2 : Nat) []).set (0 : Nat) a.fst).set (1 : Nat) b.fst).flatten = srt (a.fst ++ b.fst)) ∧ ((65 : Nat) = (65 : Nat) ∧ srt (((List.replicate (2 : Nat) []).set (0 : Nat) a.snd.fst).set (1 : Nat) b.snd.fst).flatten = srt (a.snd.fst ++ b.snd.fst)) ∧ (True ∧ True ∧ True) ∧ True) ∧ True) ∧ True) ∧ True ∧ True) ∧ True ∧ True ∧ True) ∧ True ∧ True ∧ True ∧ True) ∧ True ∧ True) ∧ True ∧ True ∧ True ∧ ((SV.pv (tB) (0 : Nat) ([] ++ [(0 : Nat)]) = SV.pv (tB) (0 : Nat) ([] ++ [(0 : Nat)]) ∧ a.fst = a.fst ∧ SV.pv (tB) (1 : Nat) ([] ++ [(0 : Nat)]) = SV.pv (tB) (1 : Nat) ([] ++ [(0 : Nat)]) ∧ b.fst = b.fst ∧ ((List.replicate (2 : Nat) []).set (0 : Nat) a.fst).set (1 : Nat) b.fst = ((List.replicate (2 : Nat) []).set (0 : Nat) a.fst).set (1 : Nat) b.fst ∧ SV.pv (tB) (0 : Nat) ([] ++ [(1 : Nat)]) = SV.pv (tB) (0 : Nat) ([] ++ [(1 : Nat)]) ∧ a.snd.fst = a.snd.fst ∧ SV.pv (tB) (1 : Nat) ([] ++ [(1 : Nat)]) = SV.pv (tB) (1 : Nat) ([] ++ [(1 : Nat)]) ∧ b.snd.fst = b.snd.fst ∧ ((List.replicate (2 : Nat) []).set (0 : Nat) a.snd.fst).set (1 : Nat) b.snd.fst = ((List.replicate (2 : Nat) []).set (0 : Nat) a.snd.fst).set (1 : Nat) b.snd.fst ∧ True) ∧ (sumL (((List.replicate (2 : Nat) []).set (0 : Nat) a.fst).set (1 : Nat) b.fst) (((List.replicate (2 : Nat) []).set (0 : Nat) a.fst).set (1 : Nat) b.fst).length ≤ (1000000000 : Nat) ∧ (SV.pv (tB) (0 : Nat) ([] ++ [(1 : Nat)]) = SV.pv (tB) (0 : Nat) ([] ++ [(1 : Nat)]) ∧ a.snd.fst = a.snd.fst ∧ SV.pv (tB) (1 : Nat) ([] ++ [(1 : Nat)]) = SV.pv (tB) (1 : Nat) ([] ++ [(1 : Nat)]) ∧ b.snd.fst = b.snd.fst ∧ ((List.replicate (2 : Nat) []).set (0 : Nat) a.snd.fst).set (1 : Nat) b.snd.fst = ((List.replicate (2 : Nat) []).set (0 : Nat) a.snd.fst).set (1 : Nat) b.snd.fst ∧ True) ∧ ((((List.replicate (2 : Nat) []).set (0 : Nat) a.fst).set (1 : Nat) b.fst).flatten.length ≤ (1000000000 : Nat) ∧ (SV.pv (tB) (0 : Nat) ([] ++ [(1 : Nat)]) = SV.pv (tB) (0 : Nat) ([] ++ [(1 : Nat)]) ∧ a.snd.fst = a.snd.fst ∧ SV.pv (tB) (1 : Nat) ([] ++ [(1 : Nat)]) = SV.pv (tB) (1 : Nat) ([] ++ [(1 : Nat)]) ∧ b.snd.fst = b.snd.fst ∧ ((List.replicate (2 : Nat) []).set (0 : Nat) a.snd.fst).set (1 : Nat) b.snd.fst = ((List.replicate (2 : Nat) []).set (0 : Nat) a.snd.fst).set (1 : Nat) b.snd.fst ∧ True) ∧ (sumL (((List.replicate (2 : Nat) []).set (0 : Nat) a.snd.fst).set (1 : Nat) b.snd.fst) (((List.replicate (2 : Nat) []).set (0 : Nat) a.snd.fst).set (1 : Nat) b.snd.fst).length ≤ (1000000000 : Nat) ∧ True ∧ ((((List.replicate (2 : Nat) []).set (0 : Nat) a.snd.fst).set (1 : Nat) b.snd.fst).flatten.length ≤ (1000000000 : Nat) ∧ True ∧ (True ∧ ∃ (x : Unit), (chkB a = (0 : Int) ∧ chkB b = (0 : Int)) ∧ (True ∧ True ∧ True) ∧ ((True ∧ True ∧ True) ∧ ((65 : Nat) = (65 : Nat) ∧ srt (((List.replicate (2 : Nat) []).set (0 : Nat) a.fst).set (1 : Nat) b.fst).flatten = srt (a.fst ++ b.fst)) ∧ ((65 : Nat) = (65 : Nat) ∧ srt (((List.replicate (2 : Nat) []).set (0 : Nat) a.snd.fst).set (1 : Nat) b.snd.fst).flatten = srt (a.snd.fst ++ b.snd.fst)) ∧ (True ∧ True ∧ True) ∧ True) ∧ True) ∧ True) ∧ True ∧ True) ∧ True ∧ True ∧ True) ∧ True ∧ True ∧ True ∧ True) ∧ True ∧ True ∧ True ∧ True ∧ True) ∧ True ∧ True) ∧ ∀ (x : Unit), chkB a = (0 : Int) ∧ chkB b = (0 : Int) → (decide ((24 : Int) < (↑(srt (a.fst ++ b.fst)).length : Int)) = true → (4 : Int) ≠ (0 : Int) ∧ k [Dat.mk (tB) ([], [], ()), Dat.mk (Ty.err (66 : Nat)) (4 : Int)]) ∧ (decide ((24 : Int) < (↑(srt (a.fst ++ b.fst)).length : Int)) = false → k [Dat.mk (tB) (srt (a.fst ++ b.fst), srt (a.snd.fst ++ b.snd.fst), ()), Dat.mk (Ty.err (66 : Nat)) (0 : Int)])))) := by kernel_rfl
theorem vcElems (b : Bag) (k : List Dat → Prop) : vcF ⟨Eb, [(13, cCheck), (34, cHasT), (37, cHasI)], [], [], []⟩ (anElems b) (Try.f16.body.getD .skip) Try.f16.ntmps [(.tmp 2, .sl I), (.tmp 3, tErr)] [⟨tB, b⟩] k = (
  True ∧ ((!decide (chkB b = (0 : Int))) = true → k [Dat.mk (I).sl [], Dat.mk (Ty.err (66 : Nat)) (chkB b)]) ∧ ((!decide (chkB b = (0 : Int))) = false → (∃ (x : Nat), (x ≤ b.fst.length ∧ chkB b = (0 : Int)) ∧ (([] : List Nat) = [] ∧ True ∧ b.fst = b.fst ∧ (↑(List.length b.fst) : Int) = (↑(List.length b.fst) : Int) ∧ (0 : Int) = (↑x : Int) ∧ True) ∧ (((24 : Nat) = (24 : Nat) ∧ b = b) ∧ ((3 : Nat) = (3 : Nat) ∧ [] = elemsU b x) ∧ True) ∧ True) ∧ ∀ (x : Nat), x ≤ b.fst.length ∧ chkB b = (0 : Int) → (decide ((↑x : Int) < (↑(List.length b.fst) : Int)) = true → (0 : Int) ≤ (↑x : Int) ∧ (↑x : Int) < (↑(List.length b.fst) : Int) ∧ True ∧ ((!hasT b.snd.fst (List.getD b.fst (↑x : Int).toNat ((0 : Int), (0 : Int), (0 : Int), ()))) = true → True ∧ ((!hasI (elemsU b x) (List.getD b.fst (↑x : Int).toNat ((0 : Int), (0 : Int), (0 : Int), ())).fst) = true → (elemsU b x).length + ((List.replicate (1 : Nat) (0 : Int)).set (0 : Nat) (List.getD b.fst (↑x : Int).toNat ((0 : Int), (0 : Int), (0 : Int), ())).fst).length ≤ (1000000000 : Nat) ∧ inK IntKind.i64 ((↑x : Int) + (1 : Int)) ∧ ∃ (x_1 : Nat), (x_1 ≤ b.fst.length ∧ chkB b = (0 : Int)) ∧ b.fst.length - x_1 < b.fst.length - x ∧ (([] : List Nat) = [] ∧ True ∧ b.fst = b.fst ∧ (↑(List.length b.fst) : Int) = (↑(List.length b.fst) : Int) ∧ (↑x : Int) + (1 : Int) = (↑x_1 : Int) ∧ True) ∧ (((24 : Nat) = (24 : Nat) ∧ b = b) ∧ ((3 : Nat) = (3 : Nat) ∧ (elemsU b x).append ((List.replicate (1 : Nat) (0 : Int)).set (0 : Nat) (List.getD b.fst (↑x : Int).toNat ((0 : Int), (0 : Int), (0 : Int), ())).fst) = elemsU b x_1) ∧ True) ∧ True) ∧ ((!hasI (elemsU b x) (List.getD b.fst (↑x : Int).toNat ((0 : Int), (0 : Int), (0 : Int), ())).fst) = false → inK IntKind.i64 ((↑x : Int) + (1 : Int)) ∧ ∃ (x_1 : Nat), (x_1 ≤ b.fst.length ∧ chkB b = (0 : Int)) ∧ b.fst.length - x_1 < b.fst.length - x ∧ (([] : List Nat) = [] ∧ True ∧ b.fst = b.fst ∧ (↑(List.length b.fst) : Int) = (↑(List.length b.fst) : Int) ∧ (↑x : Int) + (1 : Int) = (↑x_1 : Int) ∧ True) ∧ (((24 : Nat) = (24 : Nat) ∧ b = b) ∧ ((3 : Nat) = (3 : Nat) ∧ elemsU b x = elemsU b x_1) ∧ True) ∧ True)) ∧ ((!hasT b.snd.fst (List.getD b.fst (↑x : Int).toNat ((0 : Int), (0 : Int), (0 : Int), ()))) = false → inK IntKind.i64 ((↑x : Int) + (1 : Int)) ∧ ∃ (x_1 : Nat), (x_1 ≤ b.fst.length ∧ chkB b = (0 : Int)) ∧ b.fst.length - x_1 < b.fst.length - x ∧ (([] : List Nat) = [] ∧ True ∧ b.fst = b.fst ∧ (↑(List.length b.fst) : Int) = (↑(List.length b.fst) : Int) ∧ (↑x : Int) + (1 : Int) = (↑x_1 : Int) ∧ True) ∧ (((24 : Nat) = (24 : Nat) ∧ b = b) ∧ ((3 : Nat) = (3 : Nat) ∧ elemsU b x = elemsU b x_1) ∧ True) ∧ True)) ∧ (decide ((↑x : Int) < (↑(List.length b.fst) : Int)) = false → k [Dat.mk (I).sl (elemsU b x), Dat.mk (Ty.err (66 : Nat)) (0 : Int)]))) := by kernel_rfl
theorem vcUp (v : List Int) (n : Int) (k : List Dat → Prop) : vcF ⟨Eb, [(38, cCounts), (35, cWithin)], [], [], [(39, oCloneI)]⟩ [joinAll] (Try.f20.body.getD .skip) Try.f20.ntmps [(.tmp 4, .sl I), (.tmp 5, tErr)] [⟨.sl I, v⟩, ⟨I, n⟩] k = (
  True ∧ ((!decide (cntE v = (0 : Int))) = true → k [Dat.mk (I).sl [], Dat.mk (Ty.err (66 : Nat)) (cntE v)]) ∧ ((!decide (cntE v = (0 : Int))) = false → inK IntKind.i64 ((↑v.length : Int) - (1 : Int)) ∧ True ∧ ((!inB n (0 : Int) ((↑v.length : Int) - (1 : Int))) = true → (1 : Int) ≠ (0 : Int) ∧ k [Dat.mk (I).sl [], Dat.mk (Ty.err (66 : Nat)) (1 : Int)]) ∧ ((!inB n (0 : Int) ((↑v.length : Int) - (1 : Int))) = false → (0 : Int) ≤ n ∧ n < (↑v.length : Int) ∧ (decide (v.getD n.toNat (0 : Int) = (1000000 : Int)) = true → (4 : Int) ≠ (0 : Int) ∧ k [Dat.mk (I).sl [], Dat.mk (Ty.err (66 : Nat)) (4 : Int)]) ∧ (decide (v.getD n.toNat (0 : Int) = (1000000 : Int)) = false → v.length ≤ (1000000000 : Nat) ∧ (0 : Int) ≤ n ∧ n < (↑v.length : Int) ∧ inK IntKind.i64 (v.getD n.toNat (0 : Int) + (1 : Int)) ∧ (0 : Int) ≤ n ∧ n < (↑v.length : Int) ∧ k [Dat.mk (I).sl (v.set n.toNat (v.getD n.toNat (0 : Int) + (1 : Int))), Dat.mk (Ty.err (66 : Nat)) (0 : Int)])))) := by kernel_rfl
theorem vcMost (v w : List Int) (k : List Dat → Prop) : vcF ⟨Eb, [(38, cCounts)], [], [], [(39, oCloneI)]⟩ (anMost v w) (Try.f18.body.getD .skip) Try.f18.ntmps [(.tmp 4, .sl I), (.tmp 5, tErr)] [⟨.sl I, v⟩, ⟨.sl I, w⟩] k = (
  True ∧ ((!decide (cntE v = (0 : Int))) = true → k [Dat.mk (I).sl [], Dat.mk (Ty.err (66 : Nat)) (cntE v)]) ∧ ((!decide (cntE v = (0 : Int))) = false → True ∧ ((!decide (cntE w = (0 : Int))) = true → k [Dat.mk (I).sl [], Dat.mk (Ty.err (66 : Nat)) (cntE w)]) ∧ ((!decide (cntE w = (0 : Int))) = false → ((!decide ((↑v.length : Int) = (↑w.length : Int))) = true → (3 : Int) ≠ (0 : Int) ∧ k [Dat.mk (I).sl [], Dat.mk (Ty.err (66 : Nat)) (3 : Int)]) ∧ ((!decide ((↑v.length : Int) = (↑w.length : Int))) = false → v.length ≤ (1000000000 : Nat) ∧ (∃ (x : Nat), (x ≤ w.length ∧ mostE v w = (0 : Int)) ∧ (True ∧ w = w ∧ (↑w.length : Int) = (↑w.length : Int) ∧ (0 : Int) = (↑x : Int) ∧ True) ∧ (((3 : Nat) = (3 : Nat) ∧ v = mostU v w x) ∧ True) ∧ True) ∧ ∀ (x : Nat), x ≤ w.length ∧ mostE v w = (0 : Int) → (decide ((↑x : Int) < (↑w.length : Int)) = true → (0 : Int) ≤ (↑x : Int) ∧ (↑x : Int) < (↑w.length : Int) ∧ (0 : Int) ≤ (↑x : Int) ∧ (↑x : Int) < (↑(mostU v w x).length : Int) ∧ (0 : Int) ≤ (↑x : Int) ∧ (↑x : Int) < (↑(mostU v w x).length : Int) ∧ inK IntKind.i64 ((↑x : Int) + (1 : Int)) ∧ ∃ (x_1 : Nat), (x_1 ≤ w.length ∧ mostE v w = (0 : Int)) ∧ w.length - x_1 < w.length - x ∧ (True ∧ w = w ∧ (↑w.length : Int) = (↑w.length : Int) ∧ (↑x : Int) + (1 : Int) = (↑x_1 : Int) ∧ True) ∧ (((3 : Nat) = (3 : Nat) ∧ (mostU v w x).set (↑x : Int).toNat (max ((mostU v w x).getD (↑x : Int).toNat (0 : Int)) (w.getD (↑x : Int).toNat (0 : Int))) = mostU v w x_1) ∧ True) ∧ True) ∧ (decide ((↑x : Int) < (↑w.length : Int)) = false → k [Dat.mk (I).sl (mostU v w x), Dat.mk (Ty.err (66 : Nat)) (0 : Int)]))))) := by kernel_rfl
end Go.Proofs.Ytgcliogognkdkaa

/- Bags: rows sorted, doubles struck. -/
namespace Go.Proofs.Ytgcliogognkdkaa
open Go.Vc

theorem getD_set_of {α : Type} (l : List α) (i j : Nat) (x d : α) (h : i ≠ j) : (l.set i x).getD j d = l.getD j d := by
  rw [List.getD_eq_getElem?_getD, List.getD_eq_getElem?_getD, List.getElem?_set_ne h]
theorem take_set_snoc {α : Type} (l : List α) (i : Nat) (x : α) (h : i < l.length) : (l.set i x).take (i + 1) = l.take i ++ [x] := by
  rw [List.take_succ_eq_append_getElem (by simpa using h), List.take_set_of_le (Nat.le_refl _)]
  simp

theorem compact_vc (xs : List Tag) (hl : xs.length ≤ 1000000000) (k : SV → List Ob → Prop) (h1 : cpt xs = xs → k (.os 0) [.row 65 tT xs]) (h2 : k (.os 1) [.dead, .row 65 tT (cpt xs)]) :
    vcO ⟨Eb, [], [], [], []⟩ (anCompact xs) (Try.f49.body.getD .skip) Try.f49.ntmps [(.tmp 2, .un)] [.os 0] [.row 65 tT xs] k := by
  rw [vcCompact]
  simp only [decide_eq_true_eq, decide_eq_false_iff_not, true_and, and_true, Bool.not_eq_true', Bool.not_eq_false', Int.toNat_natCast, inK_i64, tag_eqB]
  have z : ∀ (l : List Tag) (i : Nat), l.getD i ((0 : Int), (0 : Int), (0 : Int), ()) = l.getD i tag0 := fun _ _ => rfl
  refine ⟨fun h => h1 ?_, fun h => ⟨⟨1, ⟨Nat.le_refl _, by omega, by omega, ?_⟩, rfl⟩, fun x ⟨a1, a2, a3, a4⟩ => ⟨fun hlt => ?_, fun hge => h1 ?_⟩⟩⟩
  · match xs, h with
    | [], _ => rfl
    | [x], _ => rfl
    | x :: y :: l, h => simp only [List.length_cons] at h; omega
  · match xs, h with
    | [], _ => rfl
    | x :: l, _ => rfl
  · have hxl : x < xs.length := by omega
    have e1 : ((x : Int) - 1).toNat = x - 1 := by omega
    have hst := cpt_step a1 hxl
    simp only [e1, z]
    refine ⟨⟨by omega, hlt, by omega, by omega, by omega⟩, fun he => ⟨⟨by omega, hlt⟩, ⟨(x, 1, x, xs), ⟨a1, Nat.le_refl _, hxl, Nat.lt_succ_self _, rfl, ?_, fun _ _ => rfl⟩, ⟨rfl, rfl, rfl⟩, rfl⟩, ?_⟩, fun hne => ⟨by omega, x + 1, ⟨by omega, by omega, a3, ?_⟩, by omega, by omega⟩⟩
    · show xs.take x = cpt (xs.take (x + 1))
      rw [hst, if_pos he.symm, a4]
    · rintro ⟨p, j, m, cur⟩ ⟨b1, b2, b3, b4, b5, b6, b7⟩
      dsimp only at b1 b2 b3 b4 b5 b6 b7 ⊢
      have e2 : ((j : Int) - 1).toNat = j - 1 := by omega
      simp only [e2, b5]
      refine ⟨fun hj => ?_, fun hj => ?_⟩
      · have hpj : p + j < xs.length := by omega
        have c1 : cur.getD (p + j) tag0 = xs.getD (p + j) tag0 := b7 _ (by omega)
        have c2 : cur.getD (p + (j - 1)) tag0 = xs.getD (p + j - 1) tag0 := by rw [show p + (j - 1) = p + j - 1 by omega]; exact b7 _ (Nat.le_refl _)
        have hs2 := cpt_step (l := xs) (n := p + j) (by omega) hpj
        rw [c1, c2]
        refine ⟨⟨by omega, by omega, by omega, by omega, by omega⟩, fun hne => ⟨by omega, by omega, by omega, by omega, by omega, by omega, (p, j + 1, m + 1, cur.set m (xs.getD (p + j) tag0)), ⟨b1, by show 1 ≤ j + 1; omega, by show p + (j + 1) ≤ _; omega, by show m + 1 < p + (j + 1); omega, by show (cur.set m _).length = _; rw [List.length_set]; exact b5, ?_, ?_⟩, by show xs.length - (j + 1) < _; omega, ⟨rfl, rfl, rfl⟩, rfl⟩, fun he => ⟨by omega, (p, j + 1, m, cur), ⟨b1, by show 1 ≤ j + 1; omega, by show p + (j + 1) ≤ _; omega, by show m < p + (j + 1); omega, b5, ?_, fun q hq => b7 q (by have hq : p + (j + 1) - 1 ≤ q := hq; omega)⟩, by show xs.length - (j + 1) < _; omega, ⟨rfl, rfl, rfl⟩, rfl⟩⟩
        · show (cur.set m _).take (m + 1) = cpt (xs.take (p + j + 1))
          rw [take_set_snoc _ _ _ (by omega), b6, hs2, if_neg (fun e => hne e.symm)]
        · intro q hq
          have hq : p + (j + 1) - 1 ≤ q := hq
          show (cur.set m _).getD q tag0 = _
          rw [getD_set_of _ _ _ _ _ (by omega)]
          exact b7 q (by omega)
        · show cur.take m = cpt (xs.take (p + j + 1))
          rw [b6, hs2, if_pos he.symm]
      · have hpj : p + j = xs.length := by omega
        have e3 : cur.take m = cpt xs := by rw [b6, hpj, List.take_length]
        have hlm : (cur.take m).length = m := by rw [List.length_take]; omega
        refine ⟨⟨by omega, by omega⟩, ⟨by omega, ?_⟩, ?_⟩
        · rw [List.length_append, hlm]; omega
        · rw [List.take_append_of_le_length (by omega), List.take_of_length_le (by omega), e3]; exact h2
    · rw [hst, if_neg (fun e => hne e.symm), a4, List.take_succ_eq_append_getElem hxl, List.getD_eq_getElem?_getD, List.getElem?_eq_getElem hxl]; rfl
  · have : x = xs.length := by omega
    rw [this, List.take_length] at a4; exact a4

theorem ownCompact : OwnOk Try.prog [] 49 oCompact := by
  refine own_mv (oc := fun args ob k => ∃ xs : List Tag, args = [.os 0] ∧ ob = [.row 65 tT xs] ∧ xs.length ≤ 1000000000 ∧ (cpt xs = xs → k (.os 0) [.row 65 tT xs]) ∧ k (.os 1) [.dead, .row 65 tT (cpt xs)]) ?_ ?_
  · refine own_of (CxOk.mk' Eb_ok (by kernel_rfl) mixed (gl := []) GOk.nil GoOk.nil noIt) Try.func49 (c := Try.f49.body.getD .skip) (rvs := [(.tmp 2, .un)]) (by kernel_rfl) (by kernel_rfl) (by kernel_rfl) ?_
    rintro args ob k ⟨xs, rfl, rfl, hl, h1, h2⟩ hwa hwo
    exact ⟨anCompact xs, compact_vc xs hl k h1 h2⟩
  · intro args ob k h
    unfold oCompact at h
    split at h
    · rename_i xs
      refine ⟨by decide, xs, rfl, rfl, h.1, fun e => ⟨?_, by simp⟩, ?_, by simp⟩
      · have h2 := h.2; rw [e] at h2; exact h2
      · exact h.2
    · exact h.elim

theorem cmpT_swo : SWOn (β := Tag) (fun _ => True) cmpT := by
  refine ⟨fun x _ => ?_, fun x y z _ _ _ => ?_, fun x y z _ _ _ => ?_⟩ <;> simp only [cmpT_lt, ltT] <;> omega

theorem ownSortT : OwnOk Try.prog [] 47 oSortT := by
  refine own_sortK laidSortT (e := 65) (t := tT) rfl (by decide) Try.isAgg65 Try.sizeOf65 (g := 48) ⟨_, Try.func48, by kernel_rfl, by kernel_rfl⟩ (tc := .un) rfl (c := cByTag) (@okByTag ⟨true⟩)
    (va := fun _ _ => True) (cmp := fun _ x y => cmpT x y) ?_ ?_
  · rintro _ x y _ _ k hk
    exact ⟨trivial, hk⟩
  · intro args ob k h
    unfold oSortT at h
    split at h
    · rename_i u xs
      exact ⟨u, xs, rfl, rfl, fun _ _ => trivial, cmpT_swo, h.1, fun ys p q => h.2 ys ⟨p, q⟩⟩
    · exact h.elim

theorem ownSorted : OwnOk Try.prog [] 30 oSorted := by
  refine own_of (CxOk.mk' Eb_ok (by kernel_rfl) mixed (gl := []) GOk.nil (GoOk.cons ownSortT Try.func47 (by kernel_rfl) (by kernel_rfl) (GoOk.cons ownCompact Try.func49 (by kernel_rfl) (by kernel_rfl) GoOk.nil)) noIt) Try.func30 (c := Try.f30.body.getD .skip) (rvs := [(.tmp 2, .un)]) (by kernel_rfl) (by kernel_rfl) (by kernel_rfl) ?_
  intro args ob k h hwa hwo
  unfold oSorted at h
  split at h
  · rename_i xs
    refine ⟨[], ?_⟩
    rw [vcSorted]
    refine ⟨h.1, fun ys hys => ⟨by rw [hys.1.length_eq]; exact h.1, ?_⟩⟩
    rw [cpt_srt hys]; exact h.2
  · exact h.elim
end Go.Proofs.Ytgcliogognkdkaa

/- Bags and counters: what is added, dropped, joined, counted: the functions keep their contracts. -/
namespace Go.Proofs.Ytgcliogognkdkaa
open Go.Vc

theorem chk_parts {b : Bag} (h : chkB b = 0) : tagsE b.1 = 0 ∧ tagsE b.2.1 = 0 ∧ goneF b b.2.1.length 0 = 0 := by
  unfold chkB at h
  by_cases h1 : tagsE b.1 = 0
  · rw [if_pos h1] at h
    by_cases h2 : tagsE b.2.1 = 0
    · rw [if_pos h2] at h; exact ⟨h1, h2, h⟩
    · rw [if_neg h2] at h; exact absurd h h2
  · rw [if_neg h1] at h; exact absurd h h1
theorem tags_len {l : List Tag} (h : tagsE l = 0) : l.length ≤ 24 := by
  unfold tagsE at h
  by_cases h1 : 24 < l.length
  · rw [if_pos h1] at h; cases h
  · omega
theorem chk_len {b : Bag} (h : chkB b = 0) : b.1.length ≤ 24 ∧ b.2.1.length ≤ 24 := ⟨tags_len (chk_parts h).1, tags_len (chk_parts h).2.1⟩
theorem tagsF_all {l : List Tag} : ∀ (f i : Nat), tagsF l f i = 0 → ∀ j, i ≤ j → j < i + f → tagE l j = 0
  | 0, i, _, j, h1, h2 => by omega
  | f + 1, i, h, j, h1, h2 => by
    unfold tagsF at h
    by_cases he : tagE l i = 0
    · rw [if_pos he] at h
      by_cases hj : j = i
      · subst hj; exact he
      · exact tagsF_all f (i + 1) h j (by omega) (by omega)
    · rw [if_neg he] at h; exact absurd h he
theorem tags_all {l : List Tag} (h : tagsE l = 0) : ∀ j, j < l.length → tagIn (l.getD j tag0) = true ∧ (0 < j → ltT (l.getD (j - 1) tag0) (l.getD j tag0)) := by
  intro j hj
  have hl := tags_len h
  have h1 : tagsF l l.length 0 = 0 := by unfold tagsE at h; rw [if_neg (by omega)] at h; exact h
  have := tagsF_all l.length 0 h1 j (Nat.zero_le _) (by omega)
  unfold tagE at this
  cases hq : tagIn (l.getD j tag0) with
  | false => rw [if_pos hq] at this; cases this
  | true =>
    rw [if_neg (by rw [hq]; decide)] at this
    refine ⟨rfl, fun h0 => ?_⟩
    cases Classical.em (0 ≤ cmpT (l.getD (j - 1) tag0) (l.getD j tag0)) with
    | inl h => rw [if_pos ⟨h0, h⟩] at this; cases this
    | inr h => exact cmpT_lt.1 (by omega)
theorem tagIn_iff {t : Tag} : tagIn t = true ↔ (0 ≤ t.1 ∧ t.1 ≤ 9) ∧ (0 ≤ t.2.1 ∧ t.2.1 ≤ 4) ∧ 1 ≤ t.2.2.1 ∧ t.2.2.1 ≤ 1000000 := by
  unfold tagIn inB
  simp only [Bool.and_eq_true, decide_eq_true_eq]
theorem maxC_in {l : List Tag} (h : tagsE l = 0) (node : Int) : ∀ i, i ≤ l.length → 0 ≤ maxC l node i ∧ maxC l node i ≤ 1000000
  | 0, _ => by simp [maxC]
  | i + 1, hi => by
    have := maxC_in h node i (by omega)
    have ht := tagIn_iff.1 (tags_all h i (by omega)).1
    unfold maxC
    split <;> omega

theorem add_vc (b : Bag) (e n : Int) (k : List Dat → Prop) (hk : k [⟨tB, addB b e n⟩, ⟨tErr, addE b e n⟩]) :
    vcF ⟨Ebw [6], [(13, cCheck), (35, cWithin)], [], [], [(36, oClone), (30, oSorted)]⟩ (anAdd b n) (Try.f14.body.getD .skip) Try.f14.ntmps [(.cell 6 24, tB), (.tmp 7, tErr)] [⟨tB, b⟩, ⟨I, e⟩, ⟨I, n⟩] k := by
  rw [vcAdd]
  have ret : ∀ x : Int, addE b e n = x → x ≠ 0 → k [⟨tB, bag0⟩, ⟨tErr, x⟩] := by
    rintro _ rfl h0
    have : addB b e n = bag0 := by unfold addB; rw [if_neg h0]
    rw [this] at hk; exact hk
  simp only [decide_eq_true_eq, decide_eq_false_iff_not, true_and, and_true, Bool.not_eq_true', Bool.not_eq_false', Int.toNat_natCast, inK_i64]
  refine ⟨fun h => ret _ (by unfold addE; rw [if_neg h]) h, fun h => ⟨fun h1 => ⟨by decide, ret _ ?_ (by decide)⟩, fun h1 => ⟨fun h2 => ⟨by decide, ret _ ?_ (by decide)⟩, fun h2 => ?_⟩⟩⟩
  · unfold addE; rw [if_pos h, h1]; rfl
  · unfold addE; rw [if_pos h, h1, h2]; rfl
  · obtain ⟨hl1, hl2⟩ := chk_len h
    have hin : (inB e 0 9 && inB n 0 4) = true := by rw [h1, h2]; rfl
    have hcm := maxC_in (chk_parts h).1 n
    refine ⟨⟨0, ⟨Nat.zero_le _, h⟩, rfl, rfl⟩, fun x ⟨hx, _⟩ => ⟨fun hlt => ⟨by omega, hlt, fun he => ?_, fun hne => ?_⟩, fun hge => ?_⟩⟩
    · refine ⟨by omega, x + 1, ⟨by omega, h⟩, by omega, ?_, by omega⟩
      rw [maxC, if_pos (show (b.1.getD x tag0).2.1 = n from he)]; rfl
    · refine ⟨by omega, x + 1, ⟨by omega, h⟩, by omega, ?_, by omega⟩
      rw [maxC, if_neg (show ¬ (b.1.getD x tag0).2.1 = n from hne)]
    · have hxe : x = b.1.length := by omega
      subst hxe
      have hc := hcm b.1.length (Nat.le_refl _)
      refine ⟨fun h24 => ⟨by decide, ret _ ?_ (by decide)⟩, fun h24 => ⟨fun hm => ⟨by decide, ret _ ?_ (by decide)⟩, fun hm => ?_⟩⟩
      · unfold addE; rw [if_pos h, if_pos hin, if_pos (.inl (by omega))]
      · unfold addE; rw [if_pos h, if_pos hin, if_pos (.inr hm)]
      · have hE : addE b e n = 0 := by unfold addE; rw [if_pos h, if_pos hin, if_neg (by rintro (c | c) <;> omega)]
        have hB : addB b e n = (srt (b.1 ++ [(e, n, maxC b.1 n b.1.length + 1, ())]), b.2.1, ()) := by unfold addB; rw [if_pos hE]
        rw [hE, hB] at hk
        have e1 : ((List.replicate 1 ((0 : Int), (0 : Int), (0 : Int), ())).set 0 (e, n, maxC b.1 n b.1.length + 1, ())) = [(e, n, maxC b.1 n b.1.length + 1, ())] := rfl
        rw [e1]
        have e2 : (List.append b.1 [(e, n, maxC b.1 n b.1.length + 1, ())]).length = b.1.length + 1 := by show (b.1 ++ _).length = _; simp
        rw [e2]
        refine ⟨by omega, by omega, by omega, by simp only [List.length_cons, List.length_nil]; omega, by omega, by omega, hk⟩

theorem okAdd : PlainOk Try.prog [] 14 cAdd := by
  refine plain_of (CxOk.mk' (Ebw_ok [6]) (by kernel_rfl) mixed (gl := []) (GOk.cons okCheck Try.func13 (by kernel_rfl) (by kernel_rfl) (GOk.cons okWithin Try.func35 (by kernel_rfl) (by kernel_rfl) GOk.nil)) (GoOk.cons ownClone Try.func36 (by kernel_rfl) (by kernel_rfl) (GoOk.cons ownSorted Try.func30 (by kernel_rfl) (by kernel_rfl) GoOk.nil)) noIt) Try.func14 (c := Try.f14.body.getD .skip) (rvs := [(.cell 6 24, tB), (.tmp 7, tErr)]) (by kernel_rfl) (by kernel_rfl) (by kernel_rfl) ?_
  intro ds k ⟨hp, hk⟩ hwf
  obtain ⟨b, e, n, rfl, -⟩ := dest3 hp
  exact ⟨anAdd b n, add_vc b e n k hk⟩

theorem ofE_len (l : List Tag) (e : Int) : (ofE l e).length ≤ l.length := List.length_filter_le _ _
theorem ofE_step (l : List Tag) (e : Int) {x : Nat} (h : x < l.length) : ofE (l.take (x + 1)) e = ofE (l.take x) e ++ (if (l.getD x tag0).1 = e then [l.getD x tag0] else []) := by
  unfold ofE
  rw [List.take_succ_eq_append_getElem h, List.filter_append, List.getD_eq_getElem?_getD, List.getElem?_eq_getElem h]
  congr 1
  by_cases hq : (l[x]).1 = e <;> simp [hq]

theorem drop_vc (b : Bag) (e : Int) (k : List Dat → Prop) (hk : k [⟨tB, dropB b e⟩, ⟨tErr, dropE b e⟩]) :
    vcF ⟨Ebw [4, 7], [(13, cCheck), (35, cWithin)], [], [], [(36, oClone), (30, oSorted)]⟩ (anDrop b e) (Try.f15.body.getD .skip) Try.f15.ntmps [(.cell 4 24, tB), (.tmp 5, tErr)] [⟨tB, b⟩, ⟨I, e⟩] k := by
  rw [vcDrop]
  have ret : ∀ x : Int, dropE b e = x → x ≠ 0 → k [⟨tB, bag0⟩, ⟨tErr, x⟩] := by
    rintro _ rfl h0
    have : dropB b e = bag0 := by unfold dropB; rw [if_neg h0]
    rw [this] at hk; exact hk
  simp only [decide_eq_true_eq, decide_eq_false_iff_not, true_and, and_true, Bool.not_eq_true', Bool.not_eq_false', Int.toNat_natCast, inK_i64]
  refine ⟨fun h => ret _ (by unfold dropE; rw [if_neg h]) h, fun h => ⟨fun h1 => ⟨by decide, ret _ ?_ (by decide)⟩, fun h1 => ?_⟩⟩
  · unfold dropE; rw [if_pos h, h1]; rfl
  · have hE : dropE b e = 0 := by unfold dropE; rw [if_pos h, if_pos h1]
    obtain ⟨hl1, hl2⟩ := chk_len h
    have g1 : List.length b.1 ≤ 1000000000 := by omega
    have g2 : List.length b.2.1 ≤ 1000000000 := by omega
    have hB : dropB b e = (b.1, srt (b.2.1 ++ ofE b.1 e), ()) := by unfold dropB; rw [if_pos hE]
    rw [hE, hB] at hk
    simp only [hE, g1, g2, true_and, and_true, exists_const, forall_const, eq_self, eqS]
    refine ⟨⟨0, Nat.zero_le _, rfl, (List.append_nil _).symm⟩, fun x hx => ⟨fun hlt => ⟨by omega, hlt, fun he => ?_, fun hne => ?_⟩, fun hge => ?_⟩⟩
    · have hxl : x < b.1.length := by omega
      have hst := ofE_step b.1 e hxl
      rw [if_pos (show (b.1.getD x tag0).1 = e from he)] at hst
      have e1 : ((List.replicate 1 ((0 : Int), (0 : Int), (0 : Int), ())).set 0 (List.getD b.1 x (0, 0, 0, ()))) = [b.1.getD x tag0] := rfl
      have h3 := ofE_len (b.1.take x) e
      rw [List.length_take] at h3
      refine ⟨by rw [e1, List.length_append]; simp only [List.length_cons, List.length_nil]; omega, by omega, x + 1, by omega, by omega, by omega, ?_⟩
      rw [e1, hst]
      show (b.2.1 ++ ofE (b.1.take x) e) ++ [b.1.getD x tag0] = _
      rw [List.append_assoc]
    · have hxl : x < b.1.length := by omega
      have hst := ofE_step b.1 e hxl
      rw [if_neg (show ¬ (b.1.getD x tag0).1 = e from hne), List.append_nil] at hst
      exact ⟨by omega, x + 1, by omega, by omega, by omega, by rw [hst]⟩
    · have hxe : x = b.1.length := by omega
      subst hxe
      have h3 := ofE_len (b.1.take b.1.length) e
      rw [List.length_take] at h3
      refine ⟨by rw [List.length_append]; omega, ?_⟩
      rw [List.take_length]; exact hk

theorem okDrop : PlainOk Try.prog [] 15 cDrop := by
  refine plain_of (CxOk.mk' (Ebw_ok [4, 7]) (by kernel_rfl) mixed (gl := []) (GOk.cons okCheck Try.func13 (by kernel_rfl) (by kernel_rfl) (GOk.cons okWithin Try.func35 (by kernel_rfl) (by kernel_rfl) GOk.nil)) (GoOk.cons ownClone Try.func36 (by kernel_rfl) (by kernel_rfl) (GoOk.cons ownSorted Try.func30 (by kernel_rfl) (by kernel_rfl) GoOk.nil)) noIt) Try.func15 (c := Try.f15.body.getD .skip) (rvs := [(.cell 4 24, tB), (.tmp 5, tErr)]) (by kernel_rfl) (by kernel_rfl) (by kernel_rfl) ?_
  intro ds k ⟨hp, hk⟩ hwf
  obtain ⟨b, e, rfl, -⟩ := dest2 hp
  exact ⟨anDrop b e, drop_vc b e k hk⟩

theorem join_vc (a b : Bag) (k : List Dat → Prop) (hk : k [⟨tB, joinB a b⟩, ⟨tErr, joinE a b⟩]) :
    vcF ⟨Ebw [4, 8], [(13, cCheck)], [], [], [(31, oConcat), (30, oSorted)]⟩ (anJoin a b) (Try.f11.body.getD .skip) Try.f11.ntmps [(.cell 4 24, tB), (.tmp 5, tErr)] [⟨tB, a⟩, ⟨tB, b⟩] k := by
  rw [vcJoin]
  have ret : ∀ x : Int, joinE a b = x → x ≠ 0 → k [⟨tB, bag0⟩, ⟨tErr, x⟩] := by
    rintro _ rfl h0
    have : joinB a b = bag0 := by unfold joinB; rw [if_neg h0]
    rw [this] at hk; exact hk
  have e1 : ∀ x y : List Tag, ((List.replicate 2 ([] : List Tag)).set 0 x).set 1 y = [x, y] := fun _ _ => rfl
  simp only [decide_eq_true_eq, decide_eq_false_iff_not, true_and, and_true, Bool.not_eq_true', Bool.not_eq_false', Int.toNat_natCast, inK_i64, e1]
  refine ⟨fun h => ret _ (by unfold joinE; rw [if_neg h]) h, fun h => ⟨fun h1 => ret _ (by unfold joinE; rw [if_pos h, if_neg h1]) h1, fun h1 => ?_⟩⟩
  obtain ⟨hl1, hl2⟩ := chk_len h
  obtain ⟨hl3, hl4⟩ := chk_len h1
  have f1 : [a.1, b.1].flatten = a.1 ++ b.1 := by simp
  have f2 : [a.2.1, b.2.1].flatten = a.2.1 ++ b.2.1 := by simp
  have s1 : sumL [a.1, b.1] [a.1, b.1].length ≤ 1000000000 := by unfold sumL; simp; omega
  have s2 : sumL [a.2.1, b.2.1] [a.2.1, b.2.1].length ≤ 1000000000 := by unfold sumL; simp; omega
  have g1 : (a.1 ++ b.1).length ≤ 1000000000 := by rw [List.length_append]; omega
  have g2 : (a.2.1 ++ b.2.1).length ≤ 1000000000 := by rw [List.length_append]; omega
  simp only [f1, f2, s1, s2, g1, g2, h, h1, true_and, and_true, exists_const, forall_const, eq_self, eqS, dite_true]
  refine ⟨fun h24 => ⟨by decide, ret _ ?_ (by decide)⟩, fun h24 => ?_⟩
  · unfold joinE; rw [if_pos h, if_pos h1, if_pos (by omega)]
  · have hE : joinE a b = 0 := by unfold joinE; rw [if_pos h, if_pos h1, if_neg (by omega)]
    have hB : joinB a b = (srt (a.1 ++ b.1), srt (a.2.1 ++ b.2.1), ()) := by unfold joinB; rw [if_pos hE]
    rw [hE, hB] at hk; exact hk

theorem okJoin : PlainOk Try.prog [] 11 cJoin := by
  refine plain_of (CxOk.mk' (Ebw_ok [4, 8]) (by kernel_rfl) mixed (gl := []) (GOk.cons okCheck Try.func13 (by kernel_rfl) (by kernel_rfl) GOk.nil) (GoOk.cons ownConcat Try.func31 (by kernel_rfl) (by kernel_rfl) (GoOk.cons ownSorted Try.func30 (by kernel_rfl) (by kernel_rfl) GoOk.nil)) noIt) Try.func11 (c := Try.f11.body.getD .skip) (rvs := [(.cell 4 24, tB), (.tmp 5, tErr)]) (by kernel_rfl) (by kernel_rfl) (by kernel_rfl) ?_
  intro ds k ⟨hp, hk⟩ hwf
  obtain ⟨a, b, rfl, -⟩ := dest2 hp
  exact ⟨anJoin a b, join_vc a b k hk⟩

theorem elemsU_len (b : Bag) : ∀ i, (elemsU b i).length ≤ i
  | 0 => Nat.le_refl _
  | i + 1 => by
    have := elemsU_len b i
    unfold elemsU
    split
    · rw [List.length_append]; simp; omega
    · omega
theorem elems_vc (b : Bag) (k : List Dat → Prop) (hk : k [⟨.sl I, elems b⟩, ⟨tErr, chkB b⟩]) :
    vcF ⟨Eb, [(13, cCheck), (34, cHasT), (37, cHasI)], [], [], []⟩ (anElems b) (Try.f16.body.getD .skip) Try.f16.ntmps [(.tmp 2, .sl I), (.tmp 3, tErr)] [⟨tB, b⟩] k := by
  rw [vcElems]
  simp only [decide_eq_true_eq, decide_eq_false_iff_not, true_and, and_true, Bool.not_eq_true', Bool.not_eq_false', Int.toNat_natCast, inK_i64]
  refine ⟨fun h => ?_, fun h => ?_⟩
  · have : elems b = [] := by unfold elems; rw [if_neg h]
    rw [this] at hk; exact hk
  · obtain ⟨hl1, hl2⟩ := chk_len h
    have hR : elems b = elemsU b b.1.length := by unfold elems; rw [if_pos h]
    rw [hR, h] at hk
    have e1 : ∀ y : Int, (List.replicate 1 (0 : Int)).set 0 y = [y] := fun _ => rfl
    simp only [h, and_true, e1]
    have ea : ∀ y : Int, ∀ l : List Int, List.append l [y] = l ++ [y] := fun _ _ => rfl
    simp only [ea]
    refine ⟨⟨0, Nat.zero_le _, rfl, rfl⟩, fun x hx => ⟨fun hlt => ?_, fun hge => ?_⟩⟩
    · have hxl : x < b.1.length := by omega
      have hn := elemsU_len b x
      refine ⟨by omega, hlt, fun h1 => ⟨fun h2 => ⟨by simp only [List.length_cons, List.length_nil]; omega, by omega, x + 1, by omega, by omega, by omega, ?_⟩, fun h2 => ⟨by omega, x + 1, by omega, by omega, by omega, ?_⟩⟩, fun h1 => ⟨by omega, x + 1, by omega, by omega, by omega, ?_⟩⟩
      · rw [elemsU, if_pos]; · rfl
        rw [show hasT b.2.1 (b.1.getD x tag0) = false from h1, show hasI (elemsU b x) (b.1.getD x tag0).1 = false from h2]; rfl
      · rw [elemsU, if_neg]
        rw [show hasI (elemsU b x) (b.1.getD x tag0).1 = true from h2]; simp
      · rw [elemsU, if_neg]
        rw [show hasT b.2.1 (b.1.getD x tag0) = true from h1]; simp
    · have hxe : x = b.1.length := by omega
      subst hxe; exact hk

theorem okElems : PlainOk Try.prog [] 16 cElems := by
  refine plain_of (CxOk.mk' Eb_ok (by kernel_rfl) mixed (gl := []) (GOk.cons okCheck Try.func13 (by kernel_rfl) (by kernel_rfl) (GOk.cons okHasT Try.func34 (by kernel_rfl) (by kernel_rfl) (GOk.cons okHasI Try.func37 (by kernel_rfl) (by kernel_rfl) GOk.nil))) GoOk.nil noIt) Try.func16 (c := Try.f16.body.getD .skip) (rvs := [(.tmp 2, .sl I), (.tmp 3, tErr)]) (by kernel_rfl) (by kernel_rfl) (by kernel_rfl) ?_
  intro ds k ⟨hp, hk⟩ hwf
  obtain ⟨b, rfl, -⟩ := dest1 hp
  exact ⟨anElems b, elems_vc b k hk⟩

theorem cnt_len {l : List Int} (h : cntE l = 0) : 1 ≤ l.length ∧ l.length ≤ 5 := by
  unfold cntE at h
  by_cases h1 : l.length = 0
  · rw [if_pos h1] at h; cases h
  · rw [if_neg h1] at h
    by_cases h2 : 5 < l.length
    · rw [if_pos h2] at h; cases h
    · omega
theorem cntF_all {l : List Int} : ∀ (f i : Nat), cntF l f i = 0 → ∀ j, i ≤ j → j < i + f → 0 ≤ l.getD j 0 ∧ l.getD j 0 ≤ 1000000
  | 0, i, _, j, h1, h2 => by omega
  | f + 1, i, h, j, h1, h2 => by
    unfold cntF at h
    by_cases he : inB (l.getD i 0) 0 1000000 = true
    · rw [if_pos he] at h
      by_cases hj : j = i
      · subst hj
        unfold inB at he
        simpa [Bool.and_eq_true] using he
      · exact cntF_all f (i + 1) h j (by omega) (by omega)
    · rw [if_neg he] at h; cases h
theorem cnt_all {l : List Int} (h : cntE l = 0) : ∀ j, j < l.length → 0 ≤ l.getD j 0 ∧ l.getD j 0 ≤ 1000000 := by
  intro j hj
  have := cnt_len h
  have h1 : cntF l l.length 0 = 0 := by unfold cntE at h; rw [if_neg (by omega), if_neg (by omega)] at h; exact h
  exact cntF_all l.length 0 h1 j (Nat.zero_le _) (by omega)

theorem up_vc (v : List Int) (n : Int) (hl : v.length ≤ maxLen) (k : List Dat → Prop) (hk : k [⟨.sl I, upR v n⟩, ⟨tErr, upE v n⟩]) :
    vcF ⟨Eb, [(38, cCounts), (35, cWithin)], [], [], [(39, oCloneI)]⟩ [joinAll] (Try.f20.body.getD .skip) Try.f20.ntmps [(.tmp 4, .sl I), (.tmp 5, tErr)] [⟨.sl I, v⟩, ⟨I, n⟩] k := by
  rw [vcUp]
  have hml : maxLen ≤ 9223372036854775807 := by decide
  have ret : ∀ x : Int, upE v n = x → x ≠ 0 → k [⟨.sl I, ([] : List Int)⟩, ⟨tErr, x⟩] := by
    rintro _ rfl h0
    have : upR v n = [] := by unfold upR; rw [if_neg h0]
    rw [this] at hk; exact hk
  simp only [decide_eq_true_eq, decide_eq_false_iff_not, true_and, and_true, Bool.not_eq_true', Bool.not_eq_false', Int.toNat_natCast, inK_i64]
  refine ⟨fun h => ret _ (by unfold upE; rw [if_neg h]) h, fun h => ?_⟩
  have hlen := cnt_len h
  refine ⟨by omega, fun h1 => ⟨by decide, ret _ (by unfold upE; rw [if_pos h, if_neg (by rw [h1]; decide)]) (by decide)⟩, fun h1 => ?_⟩
  have hn : 0 ≤ n ∧ n < (v.length : Int) := by
    unfold inB at h1
    simp only [Bool.and_eq_true, decide_eq_true_eq] at h1; omega
  have hv := cnt_all h n.toNat (by omega)
  refine ⟨hn.1, hn.2, fun h2 => ⟨by decide, ret _ (by unfold upE; rw [if_pos h, if_pos h1, if_pos h2]) (by decide)⟩, fun h2 => ⟨by omega, hn.1, hn.2, by omega, hn.1, by omega, ?_⟩⟩
  have hE : upE v n = 0 := by unfold upE; rw [if_pos h, if_pos h1, if_neg h2]
  have hR : upR v n = v.set n.toNat (v.getD n.toNat 0 + 1) := by unfold upR; rw [if_pos hE]
  rw [hE, hR] at hk; exact hk

theorem okUp : PlainOk Try.prog [] 20 cUp := by
  refine plain_of (CxOk.mk' Eb_ok (by kernel_rfl) mixed (gl := []) (GOk.cons okCounts Try.func38 (by kernel_rfl) (by kernel_rfl) (GOk.cons okWithin Try.func35 (by kernel_rfl) (by kernel_rfl) GOk.nil)) (GoOk.cons ownCloneI Try.func39 (by kernel_rfl) (by kernel_rfl) GoOk.nil) noIt) Try.func20 (c := Try.f20.body.getD .skip) (rvs := [(.tmp 4, .sl I), (.tmp 5, tErr)]) (by kernel_rfl) (by kernel_rfl) (by kernel_rfl) ?_
  intro ds k ⟨hp, hk⟩ hwf
  obtain ⟨v, n, rfl, -⟩ := dest2 hp
  exact ⟨[joinAll], up_vc v n (wf2 hwf).1.1 k hk⟩

theorem mostU_len (v w : List Int) : ∀ i, (mostU v w i).length = v.length
  | 0 => rfl
  | i + 1 => by rw [mostU, List.length_set]; exact mostU_len v w i
theorem most_vc (v w : List Int) (hl : v.length ≤ maxLen) (k : List Dat → Prop) (hk : k [⟨.sl I, mostR v w⟩, ⟨tErr, mostE v w⟩]) :
    vcF ⟨Eb, [(38, cCounts)], [], [], [(39, oCloneI)]⟩ (anMost v w) (Try.f18.body.getD .skip) Try.f18.ntmps [(.tmp 4, .sl I), (.tmp 5, tErr)] [⟨.sl I, v⟩, ⟨.sl I, w⟩] k := by
  rw [vcMost]
  have hml : maxLen ≤ 9223372036854775807 := by decide
  have ret : ∀ x : Int, mostE v w = x → x ≠ 0 → k [⟨.sl I, ([] : List Int)⟩, ⟨tErr, x⟩] := by
    rintro _ rfl h0
    have : mostR v w = [] := by unfold mostR; rw [if_neg h0]
    rw [this] at hk; exact hk
  simp only [decide_eq_true_eq, decide_eq_false_iff_not, true_and, and_true, Bool.not_eq_true', Bool.not_eq_false', Int.toNat_natCast, inK_i64, mostU_len]
  refine ⟨fun h => ret _ (by unfold mostE; rw [if_neg h]) h, fun h => ⟨fun h1 => ret _ (by unfold mostE; rw [if_pos h, if_neg h1]) h1, fun h1 => ⟨fun h2 => ⟨by decide, ret _ (by unfold mostE; rw [if_pos h, if_pos h1, if_neg (by omega)]) (by decide)⟩, fun h2 => ?_⟩⟩⟩
  have hE : mostE v w = 0 := by unfold mostE; rw [if_pos h, if_pos h1, if_pos (by omega)]
  have hlen := cnt_len h
  have hlw := cnt_len h1
  have hR : mostR v w = mostU v w w.length := by unfold mostR; rw [if_pos hE]
  rw [hE, hR] at hk
  simp only [hE, and_true]
  refine ⟨by omega, ⟨0, Nat.zero_le _, rfl, rfl⟩, fun x hx => ⟨fun hlt => ⟨by omega, hlt, by omega, by omega, by omega, by omega, by omega, x + 1, by omega, by omega, by omega, rfl⟩, fun hge => ?_⟩⟩
  have : x = w.length := by omega
  rw [this]; exact hk

theorem okMost : PlainOk Try.prog [] 18 cMost := by
  refine plain_of (CxOk.mk' Eb_ok (by kernel_rfl) mixed (gl := []) (GOk.cons okCounts Try.func38 (by kernel_rfl) (by kernel_rfl) GOk.nil) (GoOk.cons ownCloneI Try.func39 (by kernel_rfl) (by kernel_rfl) GoOk.nil) noIt) Try.func18 (c := Try.f18.body.getD .skip) (rvs := [(.tmp 4, .sl I), (.tmp 5, tErr)]) (by kernel_rfl) (by kernel_rfl) (by kernel_rfl) ?_
  intro ds k ⟨hp, hk⟩ hwf
  obtain ⟨v, w, rfl, -⟩ := dest2 hp
  exact ⟨anMost v w, most_vc v w (wf2 hwf).1.1 k hk⟩
end Go.Proofs.Ytgcliogognkdkaa

/- Nets: what the law of merged counters wants. -/
namespace Go.Proofs.Ytgcliogognkdkaa
open Go.Vc Go.Proofs
theorem cntF_zero {l : List Int} : ∀ (f i : Nat), (∀ j, i ≤ j → j < i + f → 0 ≤ l.getD j 0 ∧ l.getD j 0 ≤ 1000000) → cntF l f i = 0
  | 0, _, _ => rfl
  | f + 1, i, h => by
    unfold cntF
    rw [if_pos (by have := h i (Nat.le_refl _) (by omega); unfold inB; rw [decide_eq_true this.1, decide_eq_true this.2]; rfl)]
    exact cntF_zero f (i + 1) fun j h1 h2 => h j (by omega) (by omega)
theorem cnt_mk {l : List Int} (h1 : 1 ≤ l.length) (h2 : l.length ≤ 5) (h : ∀ j, j < l.length → 0 ≤ l.getD j 0 ∧ l.getD j 0 ≤ 1000000) : cntE l = 0 := by
  unfold cntE
  rw [if_neg (by omega), if_neg (by omega)]
  exact cntF_zero _ _ fun j _ hj => h j (by omega)
theorem mostE_iff {v w : List Int} : mostE v w = 0 ↔ cntE v = 0 ∧ cntE w = 0 ∧ v.length = w.length := by
  unfold mostE
  by_cases h1 : cntE v = 0
  · rw [if_pos h1]
    by_cases h2 : cntE w = 0
    · rw [if_pos h2]
      by_cases h3 : v.length = w.length
      · rw [if_pos h3]; exact ⟨fun _ => ⟨h1, h2, h3⟩, fun _ => rfl⟩
      · rw [if_neg h3]; exact ⟨fun e => (by cases e), fun e => absurd e.2.2 h3⟩
    · rw [if_neg h2]; exact ⟨fun e => absurd e h2, fun e => absurd e.2.1 h2⟩
  · rw [if_neg h1]; exact ⟨fun e => absurd e h1, fun e => absurd e.1 h1⟩
theorem getD_set_eq {α : Type} (l : List α) (i : Nat) (x d : α) (h : i < l.length) : (l.set i x).getD i d = x := by
  rw [List.getD_eq_getElem?_getD, List.getElem?_set_self h]; rfl
theorem mostU_get {v w : List Int} : ∀ n, n ≤ v.length → ∀ j, j < v.length → (mostU v w n).getD j 0 = if j < n then max (v.getD j 0) (w.getD j 0) else v.getD j 0
  | 0, _, j, _ => by simp [mostU]
  | n + 1, hn, j, hj => by
    have ih := mostU_get (v := v) (w := w) n (by omega)
    unfold mostU
    by_cases hjn : n = j
    · subst hjn
      rw [getD_set_eq _ _ _ _ (by rw [mostU_len]; omega), ih n hj, if_neg (by omega), if_pos (by omega)]
    · rw [getD_set_of _ _ _ _ _ hjn, ih j hj]
      by_cases hlt : j < n
      · rw [if_pos hlt, if_pos (by omega)]
      · rw [if_neg hlt, if_neg (by omega)]
theorem list_ext0 {l m : List Int} (h : l.length = m.length) (he : ∀ j, j < l.length → l.getD j 0 = m.getD j 0) : l = m := by
  apply List.ext_getElem h
  intro j h1 h2
  have := he j h1
  rwa [List.getD_eq_getElem?_getD, List.getD_eq_getElem?_getD, List.getElem?_eq_getElem h1, List.getElem?_eq_getElem h2] at this
theorem mostR_len {v w : List Int} (h : mostE v w = 0) : (mostR v w).length = v.length := by unfold mostR; rw [if_pos h, mostU_len]
theorem mostR_get {v w : List Int} (h : mostE v w = 0) {j : Nat} (hj : j < v.length) : (mostR v w).getD j 0 = max (v.getD j 0) (w.getD j 0) := by
  have hl := (mostE_iff.1 h).2.2
  unfold mostR
  rw [if_pos h, mostU_get w.length (by omega) j hj, if_pos (by omega)]
theorem inB_no {n : Int} (h : inB n 1 5 = false) : ¬ n < 1 → decide (5 < n) = true := by
  unfold inB at h
  intro h1
  rw [decide_eq_true_eq]
  by_cases h5 : 5 < n
  · exact h5
  · rw [Bool.and_eq_false_iff, decide_eq_false_iff_not, decide_eq_false_iff_not] at h; omega
section
variable {n : Nat} {W : Nat → Int → Prop} {H : Nat → Nat → Va → Prop} {t : Net}
theorem rd_eq (I : NInv n W H t) {p q : Int} (h : inNet t p q = true) : readF t p q = vAt t p.toNat q.toNat := by unfold readF; rw [if_pos h]; rfl
theorem write_at (I : NInv n W H t) {p q v : Int} (h0 : writeE t p q v = 0) (i k : Nat) : vAt (writeT t p q v) i k = if i = p.toNat ∧ k = q.toNat then [newV t p q v] else vAt t i k := by
  obtain ⟨⟨p0, p1⟩, q0, q1⟩ := inNet_iff.1 (writeE_in h0)
  have hpl : p.toNat < t.1.length := by omega
  have hrow : (t.1.getD p.toNat (List.replicate 4 [])).length = 4 := I.row _ (getD_memL hpl)
  unfold writeT; rw [if_pos h0]
  exact vAt_set (t := t) (p := p) (k := q) (l := [newV t p q v]) (w := upW t p) hpl (by rw [hrow]; omega) i k
theorem newV_get (I : NInv n W H t) {p q v : Int} (h0 : writeE t p q v = 0) {i : Nat} (hi : i < n) :
    (newV t p q v).1.getD i 0 = if i = p.toNat then t.2.1.getD p.toNat 0 + 1 else (accU (vAt t p.toNat q.toNat) n (vAt t p.toNat q.toNat).length).getD i 0 := by
  obtain ⟨⟨p0, p1⟩, q0, q1⟩ := inNet_iff.1 (writeE_in h0)
  have hpn : p.toNat < n := by rw [← I.len]; omega
  show (List.set _ _ _).getD i 0 = _
  have hvals : valsAt t p q = vAt t p.toNat q.toNat := rfl
  have hu : (upW t p).getD p.toNat 0 = t.2.1.getD p.toNat 0 + 1 := by
    unfold upW; rw [getD_setL _ _ _ _ _ (by rw [I.wr]; exact hpn), if_pos rfl]
  rw [getD_setL _ _ _ _ _ (by rw [accU_len, I.len]; exact hpn), hu, hvals, I.len]
theorem newV_len (I : NInv n W H t) (p q v : Int) : (newV t p q v).1.length = n := by
  show (List.set _ _ _).length = n
  rw [List.length_set, accU_len, I.len]
theorem acc_wr (I : NInv n W H t) {p q : Nat} {i : Nat} (hi : i < n) : (accU (vAt t p q) n (vAt t p q).length).getD i 0 ≤ t.2.1.getD i 0 := by
  rcases accU_at (fun w h => I.ln h) hi _ (Nat.le_refl _) with e | ⟨w, hw, e⟩
  · rw [e]; exact (I.cnt i hi).1
  · rw [← e]
    obtain ⟨p', hp'⟩ := I.mem _ _ _ hw
    exact (I.hb _ _ _ hp' i hi).2
end
end Go.Proofs.Ytgcliogognkdkaa

/- Nets: the law of merged counters, its loops. -/
namespace Go.Proofs.Ytgcliogognkdkaa
open Go.Vc
def cLawTM : Ctr := cdet [I, .sl (.sl I), I, I, I] (fun _ _ _ _ _ => True) (fun _ _ _ _ _ => [⟨.bool, true⟩])
def Egs : Env := { Eg with sa := [126] }
theorem Egs_ok : EnvOk Try.prog Egs := ⟨Eg_ok.ty, Eg_ok.err, Eg_ok.el, Eg_ok.mp⟩
def hadT (n : Int) (s : List (List Int)) (p k : Int) : List Va := readF (playN n s 50) p k
def nowT (n : Int) (s : List (List Int)) (p k v : Int) : List Va := readF (writeT (playN n s 50) p k v) p k
def anTM (n : Int) (s : List (List Int)) (p k v : Int) : Ann := [joinAll, anPlay 8 15 100 [0, 1, 2, 3, 4, 13] n s 50,
  loopAt 23 Nat [] (fun st i => { St.at (St.only st [0, 2]) [(17, .os 0), (18, .os 1), (19, .d (.sl I) (accU (hadT n s p k) n.toNat i)), (20, .d I (i : Int))] with ob := [.row 52 tV (hadT n s p k), .row 52 tV (nowT n s p k v)] }) (fun _ i => i ≤ (hadT n s p k).length ∧ (inB n 1 5 = true ∧ writeE (playN n s 50) p k v = 0)) (fun i => (hadT n s p k).length - i),
  loopAt 30 Nat [] (fun st q => { St.at (St.only st [0, 2, 19]) [(18, .os 0), (23, .d I (q : Int))] with ob := [.row 52 tV (nowT n s p k v)] }) (fun _ q => q ≤ n.toNat ∧ (inB n 1 5 = true ∧ writeE (playN n s 50) p k v = 0)) (fun q => n.toNat - q)]
end Go.Proofs.Ytgcliogognkdkaa

/- What the functions of this seat have to satisfy, by program: each verification condition in plain words. -/
namespace Go.Proofs.Ytgcliogognkdkaa
open Go.Vc
set_option linter.unusedVariables false
theorem vcLawTM (n : Int) (s : List (List Int)) (p q v : Int) (k : List Dat → Prop) : vcF ⟨Egs, [(18, cMost), (19, cInts)], [], [], [(24, oRead), (26, oSync), (28, oWrite), (29, oNew)]⟩ (anTM n s p q v) (Try.f9.body.getD .skip) Try.f9.ntmps [(.tmp 10, .bool)] [⟨I, n⟩, ⟨.sl (.sl I), s⟩, ⟨I, p⟩, ⟨I, q⟩, ⟨I, v⟩] k = (
  True ∧ ((!decide (mostE (((List.replicate (2 : Nat) (0 : Int)).set (0 : Nat) (1 : Int)).set (1 : Nat) (5 : Int)) (((List.replicate (2 : Nat) (0 : Int)).set (0 : Nat) (4 : Int)).set (1 : Nat) (2 : Int)) = (0 : Int))) = true → k [Dat.mk Ty.bool false]) ∧ ((!decide (mostE (((List.replicate (2 : Nat) (0 : Int)).set (0 : Nat) (1 : Int)).set (1 : Nat) (5 : Int)) (((List.replicate (2 : Nat) (0 : Int)).set (0 : Nat) (4 : Int)).set (1 : Nat) (2 : Int)) = (0 : Int))) = false → True ∧ ((!decide (mostR (((List.replicate (2 : Nat) (0 : Int)).set (0 : Nat) (1 : Int)).set (1 : Nat) (5 : Int)) (((List.replicate (2 : Nat) (0 : Int)).set (0 : Nat) (4 : Int)).set (1 : Nat) (2 : Int)) = ((List.replicate (2 : Nat) (0 : Int)).set (0 : Nat) (4 : Int)).set (1 : Nat) (5 : Int))) = true → k [Dat.mk Ty.bool false]) ∧ ((!decide (mostR (((List.replicate (2 : Nat) (0 : Int)).set (0 : Nat) (1 : Int)).set (1 : Nat) (5 : Int)) (((List.replicate (2 : Nat) (0 : Int)).set (0 : Nat) (4 : Int)).set (1 : Nat) (2 : Int)) = ((List.replicate (2 : Nat) (0 : Int)).set (0 : Nat) (4 : Int)).set (1 : Nat) (5 : Int))) = false → (inB n (1 : Int) (5 : Int) = false → ((!decide ((1 : Int) = (0 : Int))) = true → (decide (n < (1 : Int)) = true → k [Dat.mk Ty.bool true]) ∧ (decide (n < (1 : Int)) = false → k [Dat.mk Ty.bool (decide ((5 : Int) < n))])) ∧ ((!decide ((1 : Int) = (0 : Int))) = false → (∃ (x : Nat), ((x ≤ s.length ∧ x ≤ (50 : Nat)) ∧ inB n (1 : Int) (5 : Int) = true) ∧ (n = n ∧ s = s ∧ p = p ∧ q = q ∧ v = v ∧ True ∧ (0 : Int) = (↑x : Int) ∧ True) ∧ (False ∧ False ∧ False ∧ True) ∧ True) ∧ ∀ (x : Nat), (x ≤ s.length ∧ x ≤ (50 : Nat)) ∧ inB n (1 : Int) (5 : Int) = true → (decide ((↑x : Int) < (↑s.length : Int)) = true → (decide ((↑x : Int) < (50 : Int)) = true → (0 : Int) ≤ (↑x : Int) ∧ (↑x : Int) < (↑s.length : Int) ∧ (decide ((↑(s.getD (↑x : Int).toNat []).length : Int) = (3 : Int)) = true → ((0 : Int) ≤ (0 : Int) ∧ (0 : Int) < (↑(s.getD (↑x : Int).toNat []).length : Int) ∧ (0 : Int) ≤ (1 : Int) ∧ (1 : Int) < (↑(s.getD (↑x : Int).toNat []).length : Int) ∧ (0 : Int) ≤ (2 : Int) ∧ (2 : Int) < (↑(s.getD (↑x : Int).toNat []).length : Int) ∧ True) ∧ False) ∧ (decide ((↑(s.getD (↑x : Int).toNat []).length : Int) = (3 : Int)) = false → (decide ((↑(s.getD (↑x : Int).toNat []).length : Int) = (2 : Int)) = true → ((0 : Int) ≤ (0 : Int) ∧ (0 : Int) < (↑(s.getD (↑x : Int).toNat []).length : Int) ∧ (0 : Int) ≤ (1 : Int) ∧ (1 : Int) < (↑(s.getD (↑x : Int).toNat []).length : Int) ∧ True) ∧ False) ∧ (decide ((↑(s.getD (↑x : Int).toNat []).length : Int) = (2 : Int)) = false → inK IntKind.i64 ((↑x : Int) + (1 : Int)) ∧ ∃ (x_1 : Nat), ((x_1 ≤ s.length ∧ x_1 ≤ (50 : Nat)) ∧ inB n (1 : Int) (5 : Int) = true) ∧ (100 : Nat) - x_1 < (100 : Nat) - x ∧ (n = n ∧ s = s ∧ p = p ∧ q = q ∧ v = v ∧ True ∧ (↑x : Int) + (1 : Int) = (↑x_1 : Int) ∧ True) ∧ ((True ∧ True ∧ True) ∧ ((74 : Nat) = (74 : Nat) ∧ (playF n.toNat s x).fst = (playF n.toNat s x_1).fst) ∧ ((3 : Nat) = (3 : Nat) ∧ (playF n.toNat s x).snd.fst = (playF n.toNat s x_1).snd.fst) ∧ True) ∧ True))) ∧ (decide ((↑x : Int) < (50 : Int)) = false → False)) ∧ (decide ((↑x : Int) < (↑s.length : Int)) = false → False))) ∧ (inB n (1 : Int) (5 : Int) = true → ((!decide ((0 : Int) = (0 : Int))) = true → (decide (n < (1 : Int)) = true → k [Dat.mk Ty.bool true]) ∧ (decide (n < (1 : Int)) = false → k [Dat.mk Ty.bool (decide ((5 : Int) < n))])) ∧ ((!decide ((0 : Int) = (0 : Int))) = false → (∃ (x : Nat), ((x ≤ s.length ∧ x ≤ (50 : Nat)) ∧ inB n (1 : Int) (5 : Int) = true) ∧ (n = n ∧ s = s ∧ p = p ∧ q = q ∧ v = v ∧ True ∧ (0 : Int) = (↑x : Int) ∧ True) ∧ ((True ∧ True ∧ True) ∧ ((74 : Nat) = (74 : Nat) ∧ List.replicate n.toNat (List.replicate (4 : Nat) []) = (playF n.toNat s x).fst) ∧ ((3 : Nat) = (3 : Nat) ∧ List.replicate n.toNat (0 : Int) = (playF n.toNat s x).snd.fst) ∧ True) ∧ True) ∧ ∀ (x : Nat), (x ≤ s.length ∧ x ≤ (50 : Nat)) ∧ inB n (1 : Int) (5 : Int) = true → (decide ((↑x : Int) < (↑s.length : Int)) = true → (decide ((↑x : Int) < (50 : Int)) = true → (0 : Int) ≤ (↑x : Int) ∧ (↑x : Int) < (↑s.length : Int) ∧ (decide ((↑(s.getD (↑x : Int).toNat []).length : Int) = (3 : Int)) = true → ((0 : Int) ≤ (0 : Int) ∧ (0 : Int) < (↑(s.getD (↑x : Int).toNat []).length : Int) ∧ (0 : Int) ≤ (1 : Int) ∧ (1 : Int) < (↑(s.getD (↑x : Int).toNat []).length : Int) ∧ (0 : Int) ≤ (2 : Int) ∧ (2 : Int) < (↑(s.getD (↑x : Int).toNat []).length : Int) ∧ True) ∧ NetSh ((playF n.toNat s x).fst, (playF n.toNat s x).snd.fst, ()) ∧ (decide ((↑(s.getD (↑x : Int).toNat []).length : Int) = (2 : Int)) = true → ((0 : Int) ≤ (0 : Int) ∧ (0 : Int) < (↑(s.getD (↑x : Int).toNat []).length : Int) ∧ (0 : Int) ≤ (1 : Int) ∧ (1 : Int) < (↑(s.getD (↑x : Int).toNat []).length : Int) ∧ True) ∧ NetSh ((writeT ((playF n.toNat s x).fst, (playF n.toNat s x).snd.fst, ()) ((s.getD (↑x : Int).toNat []).getD (Int.toNat (0 : Int)) (0 : Int)) ((s.getD (↑x : Int).toNat []).getD (Int.toNat (1 : Int)) (0 : Int)) ((s.getD (↑x : Int).toNat []).getD (Int.toNat (2 : Int)) (0 : Int))).fst, (writeT ((playF n.toNat s x).fst, (playF n.toNat s x).snd.fst, ()) ((s.getD (↑x : Int).toNat []).getD (Int.toNat (0 : Int)) (0 : Int)) ((s.getD (↑x : Int).toNat []).getD (Int.toNat (1 : Int)) (0 : Int)) ((s.getD (↑x : Int).toNat []).getD (Int.toNat (2 : Int)) (0 : Int))).snd.fst, ()) ∧ inK IntKind.i64 ((↑x : Int) + (1 : Int)) ∧ ∃ (x_1 : Nat), ((x_1 ≤ s.length ∧ x_1 ≤ (50 : Nat)) ∧ inB n (1 : Int) (5 : Int) = true) ∧ (100 : Nat) - x_1 < (100 : Nat) - x ∧ (n = n ∧ s = s ∧ p = p ∧ q = q ∧ v = v ∧ True ∧ (↑x : Int) + (1 : Int) = (↑x_1 : Int) ∧ True) ∧ ((True ∧ True ∧ True) ∧ ((74 : Nat) = (74 : Nat) ∧ (syncT ((writeT ((playF n.toNat s x).fst, (playF n.toNat s x).snd.fst, ()) ((s.getD (↑x : Int).toNat []).getD (Int.toNat (0 : Int)) (0 : Int)) ((s.getD (↑x : Int).toNat []).getD (Int.toNat (1 : Int)) (0 : Int)) ((s.getD (↑x : Int).toNat []).getD (Int.toNat (2 : Int)) (0 : Int))).fst, (writeT ((playF n.toNat s x).fst, (playF n.toNat s x).snd.fst, ()) ((s.getD (↑x : Int).toNat []).getD (Int.toNat (0 : Int)) (0 : Int)) ((s.getD (↑x : Int).toNat []).getD (Int.toNat (1 : Int)) (0 : Int)) ((s.getD (↑x : Int).toNat []).getD (Int.toNat (2 : Int)) (0 : Int))).snd.fst, ()) ((s.getD (↑x : Int).toNat []).getD (Int.toNat (0 : Int)) (0 : Int)) ((s.getD (↑x : Int).toNat []).getD (Int.toNat (1 : Int)) (0 : Int))).fst = (playF n.toNat s x_1).fst) ∧ ((3 : Nat) = (3 : Nat) ∧ (syncT ((writeT ((playF n.toNat s x).fst, (playF n.toNat s x).snd.fst, ()) ((s.getD (↑x : Int).toNat []).getD (Int.toNat (0 : Int)) (0 : Int)) ((s.getD (↑x : Int).toNat []).getD (Int.toNat (1 : Int)) (0 : Int)) ((s.getD (↑x : Int).toNat []).getD (Int.toNat (2 : Int)) (0 : Int))).fst, (writeT ((playF n.toNat s x).fst, (playF n.toNat s x).snd.fst, ()) ((s.getD (↑x : Int).toNat []).getD (Int.toNat (0 : Int)) (0 : Int)) ((s.getD (↑x : Int).toNat []).getD (Int.toNat (1 : Int)) (0 : Int)) ((s.getD (↑x : Int).toNat []).getD (Int.toNat (2 : Int)) (0 : Int))).snd.fst, ()) ((s.getD (↑x : Int).toNat []).getD (Int.toNat (0 : Int)) (0 : Int)) ((s.getD (↑x : Int).toNat []).getD (Int.toNat (1 : Int)) (0 : Int))).snd.fst = (playF n.toNat s x_1).snd.fst) ∧ True) ∧ True) ∧ (decide ((↑(s.getD (↑x : Int).toNat []).length : Int) = (2 : Int)) = false → inK IntKind.i64 ((↑x : Int) + (1 : Int)) ∧ ∃ (x_1 : Nat), ((x_1 ≤ s.length ∧ x_1 ≤ (50 : Nat)) ∧ inB n (1 : Int) (5 : Int) = true) ∧ (100 : Nat) - x_1 < (100 : Nat) - x ∧ (n = n ∧ s = s ∧ p = p ∧ q = q ∧ v = v ∧ True ∧ (↑x : Int) + (1 : Int) = (↑x_1 : Int) ∧ True) ∧ ((True ∧ True ∧ True) ∧ ((74 : Nat) = (74 : Nat) ∧ (writeT ((playF n.toNat s x).fst, (playF n.toNat s x).snd.fst, ()) ((s.getD (↑x : Int).toNat []).getD (Int.toNat (0 : Int)) (0 : Int)) ((s.getD (↑x : Int).toNat []).getD (Int.toNat (1 : Int)) (0 : Int)) ((s.getD (↑x : Int).toNat []).getD (Int.toNat (2 : Int)) (0 : Int))).fst = (playF n.toNat s x_1).fst) ∧ ((3 : Nat) = (3 : Nat) ∧ (writeT ((playF n.toNat s x).fst, (playF n.toNat s x).snd.fst, ()) ((s.getD (↑x : Int).toNat []).getD (Int.toNat (0 : Int)) (0 : Int)) ((s.getD (↑x : Int).toNat []).getD (Int.toNat (1 : Int)) (0 : Int)) ((s.getD (↑x : Int).toNat []).getD (Int.toNat (2 : Int)) (0 : Int))).snd.fst = (playF n.toNat s x_1).snd.fst) ∧ True) ∧ True)) ∧ (decide ((↑(s.getD (↑x : Int).toNat []).length : Int) = (3 : Int)) = false → (decide ((↑(s.getD (↑x : Int).toNat []).length : Int) = (2 : Int)) = true → ((0 : Int) ≤ (0 : Int) ∧ (0 : Int) < (↑(s.getD (↑x : Int).toNat []).length : Int) ∧ (0 : Int) ≤ (1 : Int) ∧ (1 : Int) < (↑(s.getD (↑x : Int).toNat []).length : Int) ∧ True) ∧ NetSh ((playF n.toNat s x).fst, (playF n.toNat s x).snd.fst, ()) ∧ inK IntKind.i64 ((↑x : Int) + (1 : Int)) ∧ ∃ (x_1 : Nat), ((x_1 ≤ s.length ∧ x_1 ≤ (50 : Nat)) ∧ inB n (1 : Int) (5 : Int) = true) ∧ (100 : Nat) - x_1 < (100 : Nat) - x ∧ (n = n ∧ s = s ∧ p = p ∧ q = q ∧ v = v ∧ True ∧ (↑x : Int) + (1 : Int) = (↑x_1 : Int) ∧ True) ∧ ((True ∧ True ∧ True) ∧ ((74 : Nat) = (74 : Nat) ∧ (syncT ((playF n.toNat s x).fst, (playF n.toNat s x).snd.fst, ()) ((s.getD (↑x : Int).toNat []).getD (Int.toNat (0 : Int)) (0 : Int)) ((s.getD (↑x : Int).toNat []).getD (Int.toNat (1 : Int)) (0 : Int))).fst = (playF n.toNat s x_1).fst) ∧ ((3 : Nat) = (3 : Nat) ∧ (syncT ((playF n.toNat s x).fst, (playF n.toNat s x).snd.fst, ()) ((s.getD (↑x : Int).toNat []).getD (Int.toNat (0 : Int)) (0 : Int)) ((s.getD (↑x : Int).toNat []).getD (Int.toNat (1 : Int)) (0 : Int))).snd.fst = (playF n.toNat s x_1).snd.fst) ∧ True) ∧ True) ∧ (decide ((↑(s.getD (↑x : Int).toNat []).length : Int) = (2 : Int)) = false → inK IntKind.i64 ((↑x : Int) + (1 : Int)) ∧ ∃ (x_1 : Nat), ((x_1 ≤ s.length ∧ x_1 ≤ (50 : Nat)) ∧ inB n (1 : Int) (5 : Int) = true) ∧ (100 : Nat) - x_1 < (100 : Nat) - x ∧ (n = n ∧ s = s ∧ p = p ∧ q = q ∧ v = v ∧ True ∧ (↑x : Int) + (1 : Int) = (↑x_1 : Int) ∧ True) ∧ ((True ∧ True ∧ True) ∧ ((74 : Nat) = (74 : Nat) ∧ (playF n.toNat s x).fst = (playF n.toNat s x_1).fst) ∧ ((3 : Nat) = (3 : Nat) ∧ (playF n.toNat s x).snd.fst = (playF n.toNat s x_1).snd.fst) ∧ True) ∧ True))) ∧ (decide ((↑x : Int) < (50 : Int)) = false → NetLen ((playF n.toNat s x).fst, (playF n.toNat s x).snd.fst, ()) ∧ NetSh ((playF n.toNat s x).fst, (playF n.toNat s x).snd.fst, ()) ∧ ((!decide (writeE ((playF n.toNat s x).fst, (playF n.toNat s x).snd.fst, ()) p q v = (0 : Int))) = true → k [Dat.mk Ty.bool true]) ∧ ((!decide (writeE ((playF n.toNat s x).fst, (playF n.toNat s x).snd.fst, ()) p q v = (0 : Int))) = false → NetLen ((writeT ((playF n.toNat s x).fst, (playF n.toNat s x).snd.fst, ()) p q v).fst, (writeT ((playF n.toNat s x).fst, (playF n.toNat s x).snd.fst, ()) p q v).snd.fst, ()) ∧ ((!decide ((↑(readF ((writeT ((playF n.toNat s x).fst, (playF n.toNat s x).snd.fst, ()) p q v).fst, (writeT ((playF n.toNat s x).fst, (playF n.toNat s x).snd.fst, ()) p q v).snd.fst, ()) p q).length : Int) = (1 : Int))) = true → k [Dat.mk Ty.bool false]) ∧ ((!decide ((↑(readF ((writeT ((playF n.toNat s x).fst, (playF n.toNat s x).snd.fst, ()) p q v).fst, (writeT ((playF n.toNat s x).fst, (playF n.toNat s x).snd.fst, ()) p q v).snd.fst, ()) p q).length : Int) = (1 : Int))) = false → (decide (p < (0 : Int)) = true → k [Dat.mk Ty.bool false]) ∧ (decide (p < (0 : Int)) = false → (decide (n ≤ p) = true → k [Dat.mk Ty.bool false]) ∧ (decide (n ≤ p) = false → (0 : Int) ≤ (0 : Int) ∧ (0 : Int) < (↑(readF ((writeT ((playF n.toNat s x).fst, (playF n.toNat s x).snd.fst, ()) p q v).fst, (writeT ((playF n.toNat s x).fst, (playF n.toNat s x).snd.fst, ()) p q v).snd.fst, ()) p q).length : Int) ∧ ((!decide ((↑(List.length ((readF ((writeT ((playF n.toNat s x).fst, (playF n.toNat s x).snd.fst, ()) p q v).fst, (writeT ((playF n.toNat s x).fst, (playF n.toNat s x).snd.fst, ()) p q v).snd.fst, ()) p q).getD (0 : Nat) va0).fst) : Int) = n)) = true → k [Dat.mk Ty.bool false]) ∧ ((!decide ((↑(List.length ((readF ((writeT ((playF n.toNat s x).fst, (playF n.toNat s x).snd.fst, ()) p q v).fst, (writeT ((playF n.toNat s x).fst, (playF n.toNat s x).snd.fst, ()) p q v).snd.fst, ()) p q).getD (0 : Nat) va0).fst) : Int) = n)) = false → (0 : Int) ≤ n ∧ n ≤ n ∧ n ≤ (1000000000 : Int) ∧ (∃ (x_1 : Nat), (x_1 ≤ (hadT n s p q).length ∧ inB n (1 : Int) (5 : Int) = true ∧ writeE (playN n s (50 : Nat)) p q v = (0 : Int)) ∧ (n = n ∧ p = p ∧ True ∧ True ∧ List.replicate n.toNat (0 : Int) = accU (hadT n s p q) n.toNat x_1 ∧ (0 : Int) = (↑x_1 : Int) ∧ True) ∧ (((52 : Nat) = (52 : Nat) ∧ readF ((playF n.toNat s x).fst, (playF n.toNat s x).snd.fst, ()) p q = hadT n s p q) ∧ ((52 : Nat) = (52 : Nat) ∧ readF ((writeT ((playF n.toNat s x).fst, (playF n.toNat s x).snd.fst, ()) p q v).fst, (writeT ((playF n.toNat s x).fst, (playF n.toNat s x).snd.fst, ()) p q v).snd.fst, ()) p q = nowT n s p q v) ∧ True) ∧ True) ∧ ∀ (x : Nat), x ≤ (hadT n s p q).length ∧ inB n (1 : Int) (5 : Int) = true ∧ writeE (playN n s (50 : Nat)) p q v = (0 : Int) → (decide ((↑x : Int) < (↑(hadT n s p q).length : Int)) = true → (0 : Int) ≤ (↑x : Int) ∧ (↑x : Int) < (↑(hadT n s p q).length : Int) ∧ True ∧ ((!decide (mostE (accU (hadT n s p q) n.toNat x) ((hadT n s p q).getD (↑x : Int).toNat va0).fst = (0 : Int))) = true → k [Dat.mk Ty.bool false]) ∧ ((!decide (mostE (accU (hadT n s p q) n.toNat x) ((hadT n s p q).getD (↑x : Int).toNat va0).fst = (0 : Int))) = false → inK IntKind.i64 ((↑x : Int) + (1 : Int)) ∧ ∃ (x_1 : Nat), (x_1 ≤ (hadT n s p q).length ∧ inB n (1 : Int) (5 : Int) = true ∧ writeE (playN n s (50 : Nat)) p q v = (0 : Int)) ∧ (hadT n s p q).length - x_1 < (hadT n s p q).length - x ∧ (n = n ∧ p = p ∧ True ∧ True ∧ mostR (accU (hadT n s p q) n.toNat x) ((hadT n s p q).getD (↑x : Int).toNat va0).fst = accU (hadT n s p q) n.toNat x_1 ∧ (↑x : Int) + (1 : Int) = (↑x_1 : Int) ∧ True) ∧ (((52 : Nat) = (52 : Nat) ∧ hadT n s p q = hadT n s p q) ∧ ((52 : Nat) = (52 : Nat) ∧ nowT n s p q v = nowT n s p q v) ∧ True) ∧ True)) ∧ (decide ((↑x : Int) < (↑(hadT n s p q).length : Int)) = false → (∃ (x_1 : Nat), (x_1 ≤ n.toNat ∧ inB n (1 : Int) (5 : Int) = true ∧ writeE (playN n s (50 : Nat)) p q v = (0 : Int)) ∧ (n = n ∧ p = p ∧ True ∧ accU (hadT n s p q) n.toNat x = accU (hadT n s p q) n.toNat x ∧ (0 : Int) = (↑x_1 : Int) ∧ True) ∧ (((52 : Nat) = (52 : Nat) ∧ nowT n s p q v = nowT n s p q v) ∧ True) ∧ True) ∧ ∀ (x_1 : Nat), x_1 ≤ n.toNat ∧ inB n (1 : Int) (5 : Int) = true ∧ writeE (playN n s (50 : Nat)) p q v = (0 : Int) → (decide ((↑x_1 : Int) < n) = true → (((!decide ((↑x_1 : Int) = p)) = true → (0 : Int) ≤ (0 : Int) ∧ (0 : Int) < (↑(nowT n s p q v).length : Int) ∧ (0 : Int) ≤ (↑x_1 : Int) ∧ (↑x_1 : Int) < (↑(List.length ((nowT n s p q v).getD (0 : Nat) va0).fst) : Int) ∧ (0 : Int) ≤ (↑x_1 : Int) ∧ (↑x_1 : Int) < (↑(accU (hadT n s p q) n.toNat x).length : Int) ∧ ((!decide (List.getD ((nowT n s p q v).getD (0 : Nat) va0).fst (↑x_1 : Int).toNat (0 : Int) = (accU (hadT n s p q) n.toNat x).getD (↑x_1 : Int).toNat (0 : Int))) = true → True) ∧ ((!decide (List.getD ((nowT n s p q v).getD (0 : Nat) va0).fst (↑x_1 : Int).toNat (0 : Int) = (accU (hadT n s p q) n.toNat x).getD (↑x_1 : Int).toNat (0 : Int))) = false → (decide ((↑x_1 : Int) = p) = true → (0 : Int) ≤ (0 : Int) ∧ (0 : Int) < (↑(nowT n s p q v).length : Int) ∧ (0 : Int) ≤ (↑x_1 : Int) ∧ (↑x_1 : Int) < (↑(List.length ((nowT n s p q v).getD (0 : Nat) va0).fst) : Int) ∧ (0 : Int) ≤ (↑x_1 : Int) ∧ (↑x_1 : Int) < (↑(accU (hadT n s p q) n.toNat x).length : Int) ∧ True) ∧ (decide ((↑x_1 : Int) = p) = false → True))) ∧ ((!decide ((↑x_1 : Int) = p)) = false → (decide ((↑x_1 : Int) = p) = true → (0 : Int) ≤ (0 : Int) ∧ (0 : Int) < (↑(nowT n s p q v).length : Int) ∧ (0 : Int) ≤ (↑x_1 : Int) ∧ (↑x_1 : Int) < (↑(List.length ((nowT n s p q v).getD (0 : Nat) va0).fst) : Int) ∧ (0 : Int) ≤ (↑x_1 : Int) ∧ (↑x_1 : Int) < (↑(accU (hadT n s p q) n.toNat x).length : Int) ∧ True) ∧ (decide ((↑x_1 : Int) = p) = false → True))) ∧ ((bif !decide ((↑x_1 : Int) = p) then !decide (List.getD ((nowT n s p q v).getD (0 : Nat) va0).fst (↑x_1 : Int).toNat (0 : Int) = (accU (hadT n s p q) n.toNat x).getD (↑x_1 : Int).toNat (0 : Int)) || decide ((↑x_1 : Int) = p) && decide (List.getD ((nowT n s p q v).getD (0 : Nat) va0).fst (↑x_1 : Int).toNat (0 : Int) ≤ (accU (hadT n s p q) n.toNat x).getD (↑x_1 : Int).toNat (0 : Int)) else decide ((↑x_1 : Int) = p) && decide (List.getD ((nowT n s p q v).getD (0 : Nat) va0).fst (↑x_1 : Int).toNat (0 : Int) ≤ (accU (hadT n s p q) n.toNat x).getD (↑x_1 : Int).toNat (0 : Int))) = true → k [Dat.mk Ty.bool false]) ∧ ((bif !decide ((↑x_1 : Int) = p) then !decide (List.getD ((nowT n s p q v).getD (0 : Nat) va0).fst (↑x_1 : Int).toNat (0 : Int) = (accU (hadT n s p q) n.toNat x).getD (↑x_1 : Int).toNat (0 : Int)) || decide ((↑x_1 : Int) = p) && decide (List.getD ((nowT n s p q v).getD (0 : Nat) va0).fst (↑x_1 : Int).toNat (0 : Int) ≤ (accU (hadT n s p q) n.toNat x).getD (↑x_1 : Int).toNat (0 : Int)) else decide ((↑x_1 : Int) = p) && decide (List.getD ((nowT n s p q v).getD (0 : Nat) va0).fst (↑x_1 : Int).toNat (0 : Int) ≤ (accU (hadT n s p q) n.toNat x).getD (↑x_1 : Int).toNat (0 : Int))) = false → inK IntKind.i64 ((↑x_1 : Int) + (1 : Int)) ∧ ∃ (x_2 : Nat), (x_2 ≤ n.toNat ∧ inB n (1 : Int) (5 : Int) = true ∧ writeE (playN n s (50 : Nat)) p q v = (0 : Int)) ∧ n.toNat - x_2 < n.toNat - x_1 ∧ (n = n ∧ p = p ∧ True ∧ accU (hadT n s p q) n.toNat x = accU (hadT n s p q) n.toNat x ∧ (↑x_1 : Int) + (1 : Int) = (↑x_2 : Int) ∧ True) ∧ (((52 : Nat) = (52 : Nat) ∧ nowT n s p q v = nowT n s p q v) ∧ True) ∧ True)) ∧ (decide ((↑x_1 : Int) < n) = false → k [Dat.mk Ty.bool true]))))))))) ∧ (decide ((↑x : Int) < (↑s.length : Int)) = false → NetLen ((playF n.toNat s x).fst, (playF n.toNat s x).snd.fst, ()) ∧ NetSh ((playF n.toNat s x).fst, (playF n.toNat s x).snd.fst, ()) ∧ ((!decide (writeE ((playF n.toNat s x).fst, (playF n.toNat s x).snd.fst, ()) p q v = (0 : Int))) = true → k [Dat.mk Ty.bool true]) ∧ ((!decide (writeE ((playF n.toNat s x).fst, (playF n.toNat s x).snd.fst, ()) p q v = (0 : Int))) = false → NetLen ((writeT ((playF n.toNat s x).fst, (playF n.toNat s x).snd.fst, ()) p q v).fst, (writeT ((playF n.toNat s x).fst, (playF n.toNat s x).snd.fst, ()) p q v).snd.fst, ()) ∧ ((!decide ((↑(readF ((writeT ((playF n.toNat s x).fst, (playF n.toNat s x).snd.fst, ()) p q v).fst, (writeT ((playF n.toNat s x).fst, (playF n.toNat s x).snd.fst, ()) p q v).snd.fst, ()) p q).length : Int) = (1 : Int))) = true → k [Dat.mk Ty.bool false]) ∧ ((!decide ((↑(readF ((writeT ((playF n.toNat s x).fst, (playF n.toNat s x).snd.fst, ()) p q v).fst, (writeT ((playF n.toNat s x).fst, (playF n.toNat s x).snd.fst, ()) p q v).snd.fst, ()) p q).length : Int) = (1 : Int))) = false → (decide (p < (0 : Int)) = true → k [Dat.mk Ty.bool false]) ∧ (decide (p < (0 : Int)) = false → (decide (n ≤ p) = true → k [Dat.mk Ty.bool false]) ∧ (decide (n ≤ p) = false → (0 : Int) ≤ (0 : Int) ∧ (0 : Int) < (↑(readF ((writeT ((playF n.toNat s x).fst, (playF n.toNat s x).snd.fst, ()) p q v).fst, (writeT ((playF n.toNat s x).fst, (playF n.toNat s x).snd.fst, ()) p q v).snd.fst, ()) p q).length : Int) ∧ ((!decide ((↑(List.length ((readF ((writeT ((playF n.toNat s x).fst, (playF n.toNat s x).snd.fst, ()) p q v).fst, (writeT ((playF n.toNat s x).fst, (playF n.toNat s x).snd.fst, ()) p q v).snd.fst, ()) p q).getD (0 : Nat) va0).fst) : Int) = n)) = true → k [Dat.mk Ty.bool false]) ∧ ((!decide ((↑(List.length ((readF ((writeT ((playF n.toNat s x).fst, (playF n.toNat s x).snd.fst, ()) p q v).fst, (writeT ((playF n.toNat s x).fst, (playF n.toNat s x).snd.fst, ()) p q v).snd.fst, ()) p q).getD (0 : Nat) va0).fst) : Int) = n)) = false → (0 : Int) ≤ n ∧ n ≤ n ∧ n ≤ (1000000000 : Int) ∧ (∃ (x_1 : Nat), (x_1 ≤ (hadT n s p q).length ∧ inB n (1 : Int) (5 : Int) = true ∧ writeE (playN n s (50 : Nat)) p q v = (0 : Int)) ∧ (n = n ∧ p = p ∧ True ∧ True ∧ List.replicate n.toNat (0 : Int) = accU (hadT n s p q) n.toNat x_1 ∧ (0 : Int) = (↑x_1 : Int) ∧ True) ∧ (((52 : Nat) = (52 : Nat) ∧ readF ((playF n.toNat s x).fst, (playF n.toNat s x).snd.fst, ()) p q = hadT n s p q) ∧ ((52 : Nat) = (52 : Nat) ∧ readF ((writeT ((playF n.toNat s x).fst, (playF n.toNat s x).snd.fst, ()) p q v).fst, (writeT ((playF n.toNat s x).fst, (playF n.toNat s x).snd.fst, ()) p q v).snd.fst, ()) p q = nowT n s p q v) ∧ True) ∧ True) ∧ ∀ (x : Nat), x ≤ (hadT n s p q).length ∧ inB n (1 : Int) (5 : Int) = true ∧ writeE (playN n s (50 : Nat)) p q v = (0 : Int) → (decide ((↑x : Int) < (↑(hadT n s p q).length : Int)) = true → (0 : Int) ≤ (↑x : Int) ∧ (↑x : Int) < (↑(hadT n s p q).length : Int) ∧ True ∧ ((!decide (mostE (accU (hadT n s p q) n.toNat x) ((hadT n s p q).getD (↑x : Int).toNat va0).fst = (0 : Int))) = true → k [Dat.mk Ty.bool false]) ∧ ((!decide (mostE (accU (hadT n s p q) n.toNat x) ((hadT n s p q).getD (↑x : Int).toNat va0).fst = (0 : Int))) = false → inK IntKind.i64 ((↑x : Int) + (1 : Int)) ∧ ∃ (x_1 : Nat), (x_1 ≤ (hadT n s p q).length ∧ inB n (1 : Int) (5 : Int) = true ∧ writeE (playN n s (50 : Nat)) p q v = (0 : Int)) ∧ (hadT n s p q).length - x_1 < (hadT n s p q).length - x ∧ (n = n ∧ p = p ∧ True ∧ True ∧ mostR (accU (hadT n s p q) n.toNat x) ((hadT n s p q).getD (↑x : Int).toNat va0).fst = accU (hadT n s p q) n.toNat x_1 ∧ (↑x : Int) + (1 : Int) = (↑x_1 : Int) ∧ True) ∧ (((52 : Nat) = (52 : Nat) ∧ hadT n s p q = hadT n s p q) ∧ ((52 : Nat) = (52 : Nat) ∧ nowT n s p q v = nowT n s p q v) ∧ True) ∧ True)) ∧ (decide ((↑x : Int) < (↑(hadT n s p q).length : Int)) = false → (∃ (x_1 : Nat), (x_1 ≤ n.toNat ∧ inB n (1 : Int) (5 : Int) = true ∧ writeE (playN n s (50 : Nat)) p q v = (0 : Int)) ∧ (n = n ∧ p = p ∧ True ∧ accU (hadT n s p q) n.toNat x = accU (hadT n s p q) n.toNat x ∧ (0 : Int) = (↑x_1 : Int) ∧ True) ∧ (((52 : Nat) = (52 : Nat) ∧ nowT n s p q v = nowT n s p q v) ∧ True) ∧ True) ∧ ∀ (x_1 : Nat), x_1 ≤ n.toNat ∧ inB n (1 : Int) (5 : Int) = true ∧ writeE (playN n s (50 : Nat)) p q v = (0 : Int) → (decide ((↑x_1 : Int) < n) = true → (((!decide ((↑x_1 : Int) = p)) = true → (0 : Int) ≤ (0 : Int) ∧ (0 : Int) < (↑(nowT n s p q v).length : Int) ∧ (0 : Int) ≤ (↑x_1 : Int) ∧ (↑x_1 : Int) < (↑(List.length ((nowT n s p q v).getD (0 : Nat) va0).fst) : Int) ∧ (0 : Int) ≤ (↑x_1 : Int) ∧ (↑x_1 : Int) < (↑(accU (hadT n s p q) n.toNat x).length : Int) ∧ ((!decide (List.getD ((nowT n s p q v).getD (0 : Nat) va0).fst (↑x_1 : Int).toNat (0 : Int) = (accU (hadT n s p q) n.toNat x).getD (↑x_1 : Int).toNat (0 : Int))) = true → True) ∧ ((!decide (List.getD ((nowT n s p q v).getD (0 : Nat) va0).fst (↑x_1 : Int).toNat (0 : Int) = (accU (hadT n s p q) n.toNat x).getD (↑x_1 : Int).toNat (0 : Int))) = false → (decide ((↑x_1 : Int) = p) = true → (0 : Int) ≤ (0 : Int) ∧ (0 : Int) < (↑(nowT n s p q v).length : Int) ∧ (0 : Int) ≤ (↑x_1 : Int) ∧ (↑x_1 : Int) < (↑(List.length ((nowT n s p q v).getD (0 : Nat) va0).fst) : Int) ∧ (0 : Int) ≤ (↑x_1 : Int) ∧ (↑x_1 : Int) < (↑(accU (hadT n s p q) n.toNat x).length : Int) ∧ True) ∧ (decide ((↑x_1 : Int) = p) = false → True))) ∧ ((!decide ((↑x_1 : Int) = p)) = false → (decide ((↑x_1 : Int) = p) = true → (0 : Int) ≤ (0 : Int) ∧ (0 : Int) < (↑(nowT n s p q v).length : Int) ∧ (0 : Int) ≤ (↑x_1 : Int) ∧ (↑x_1 : Int) < (↑(List.length ((nowT n s p q v).getD (0 : Nat) va0).fst) : Int) ∧ (0 : Int) ≤ (↑x_1 : Int) ∧ (↑x_1 : Int) < (↑(accU (hadT n s p q) n.toNat x).length : Int) ∧ True) ∧ (decide ((↑x_1 : Int) = p) = false → True))) ∧ ((bif !decide ((↑x_1 : Int) = p) then !decide (List.getD ((nowT n s p q v).getD (0 : Nat) va0).fst (↑x_1 : Int).toNat (0 : Int) = (accU (hadT n s p q) n.toNat x).getD (↑x_1 : Int).toNat (0 : Int)) || decide ((↑x_1 : Int) = p) && decide (List.getD ((nowT n s p q v).getD (0 : Nat) va0).fst (↑x_1 : Int).toNat (0 : Int) ≤ (accU (hadT n s p q) n.toNat x).getD (↑x_1 : Int).toNat (0 : Int)) else decide ((↑x_1 : Int) = p) && decide (List.getD ((nowT n s p q v).getD (0 : Nat) va0).fst (↑x_1 : Int).toNat (0 : Int) ≤ (accU (hadT n s p q) n.toNat x).getD (↑x_1 : Int).toNat (0 : Int))) = true → k [Dat.mk Ty.bool false]) ∧ ((bif !decide ((↑x_1 : Int) = p) then !decide (List.getD ((nowT n s p q v).getD (0 : Nat) va0).fst (↑x_1 : Int).toNat (0 : Int) = (accU (hadT n s p q) n.toNat x).getD (↑x_1 : Int).toNat (0 : Int)) || decide ((↑x_1 : Int) = p) && decide (List.getD ((nowT n s p q v).getD (0 : Nat) va0).fst (↑x_1 : Int).toNat (0 : Int) ≤ (accU (hadT n s p q) n.toNat x).getD (↑x_1 : Int).toNat (0 : Int)) else decide ((↑x_1 : Int) = p) && decide (List.getD ((nowT n s p q v).getD (0 : Nat) va0).fst (↑x_1 : Int).toNat (0 : Int) ≤ (accU (hadT n s p q) n.toNat x).getD (↑x_1 : Int).toNat (0 : Int))) = false → inK IntKind.i64 ((↑x_1 : Int) + (1 : Int)) ∧ ∃ (x_2 : Nat), (x_2 ≤ n.toNat ∧ inB n (1 : Int) (5 : Int) = true ∧ writeE (playN n s (50 : Nat)) p q v = (0 : Int)) ∧ n.toNat - x_2 < n.toNat - x_1 ∧ (n = n ∧ p = p ∧ True ∧ accU (hadT n s p q) n.toNat x = accU (hadT n s p q) n.toNat x ∧ (↑x_1 : Int) + (1 : Int) = (↑x_2 : Int) ∧ True) ∧ (((52 : Nat) = (52 : Nat) ∧ nowT n s p q v = nowT n s p q v) ∧ True) ∧ True)) ∧ (decide ((↑x_1 : Int) < n) = false → k [Dat.mk Ty.bool true]))))))))))))) := by kernel_rfl
end Go.Proofs.Ytgcliogognkdkaa

/- Nets: what a write has seen is a counter that is merged. -/
namespace Go.Proofs.Ytgcliogognkdkaa
open Go.Vc Go.Proofs

section
variable {n : Nat} {W : Nat → Int → Prop} {H : Nat → Nat → Va → Prop} {t : Net}
theorem acc_in (I : NInv n W H t) {p q : Nat} {m : Nat} (hm : m ≤ (vAt t p q).length) {i : Nat} (hi : i < n) : 0 ≤ (accU (vAt t p q) n m).getD i 0 ∧ (accU (vAt t p q) n m).getD i 0 ≤ 60 := by
  refine ⟨(accU_ge (fun w h => I.ln h) hi m hm).1, ?_⟩
  rcases accU_at (fun w h => I.ln h) hi m hm with e | ⟨w, hw, e⟩
  · rw [e]; decide
  · rw [← e]
    obtain ⟨p', hp'⟩ := I.mem _ _ _ hw
    have := (I.hb _ _ _ hp' i hi).2
    have := (I.cnt i hi).2
    omega
theorem most_acc (I : NInv n W H t) {p q : Nat} {m : Nat} (hm : m < (vAt t p q).length) : mostE (accU (vAt t p q) n m) ((vAt t p q).getD m va0).1 = 0 ∧ mostR (accU (vAt t p q) n m) ((vAt t p q).getD m va0).1 = accU (vAt t p q) n (m + 1) := by
  have hv := getD_memL (d := va0) hm
  have hl := I.ln hv
  have h1 := I.lo
  have h5 := I.hi
  have c1 : cntE (accU (vAt t p q) n m) = 0 := cnt_mk (by rw [accU_len]; omega) (by rw [accU_len]; omega) fun j hj => by
    rw [accU_len] at hj
    have := acc_in I (p := p) (q := q) (m := m) (by omega) hj
    omega
  have c2 : cntE ((vAt t p q).getD m va0).1 = 0 := cnt_mk (by omega) (by omega) fun j hj => by
    obtain ⟨p', hp'⟩ := I.mem _ _ _ hv
    have a := I.hb _ _ _ hp' j (by omega)
    have b := (I.cnt j (by omega)).2
    omega
  have h0 : mostE (accU (vAt t p q) n m) ((vAt t p q).getD m va0).1 = 0 := mostE_iff.2 ⟨c1, c2, by rw [accU_len, hl]⟩
  have hlen := mostR_len h0
  rw [accU_len] at hlen
  refine ⟨h0, list_ext0 (by rw [hlen, accU_len]) fun j hj => ?_⟩
  rw [hlen] at hj
  rw [mostR_get h0 (by rw [accU_len]; exact hj), accU_succ (fun w h => I.ln h) hj hm]
end
theorem lawTM_vc (n : Int) (s : List (List Int)) (p q v : Int) (hml : s.length ≤ maxLen) (k : List Dat → Prop) (hk : k [⟨.bool, true⟩]) :
    vcF ⟨Egs, [(18, cMost), (19, cInts)], [], [], [(24, oRead), (26, oSync), (28, oWrite), (29, oNew)]⟩ (anTM n s p q v) (Try.f9.body.getD .skip) Try.f9.ntmps [(.tmp 10, .bool)] [⟨I, n⟩, ⟨.sl (.sl I), s⟩, ⟨I, p⟩, ⟨I, q⟩, ⟨I, v⟩] k := by
  rw [vcLawTM]
  have hmx : maxLen ≤ 9223372036854775807 := by decide
  have ret : ∀ x : Bool, x = true → k [⟨.bool, x⟩] := by rintro _ rfl; exact hk
  have f1 : mostE (((List.replicate 2 0).set 0 1).set 1 5) (((List.replicate 2 0).set 0 4).set 1 2) = 0 := by kernel_rfl
  have f2 : mostR (((List.replicate 2 0).set 0 1).set 1 5) (((List.replicate 2 0).set 0 4).set 1 2) = ((List.replicate 2 0).set 0 4).set 1 5 := by kernel_rfl
  have d1 : decide ((1 : Int) = 0) = false := rfl
  have d0 : decide ((0 : Int) = 0) = true := rfl
  have i0 : Int.toNat 0 = 0 := rfl
  have i1 : Int.toNat 1 = 1 := rfl
  have i2 : Int.toNat 2 = 2 := rfl
  cases hb : inB n 1 5 with
  | false =>
    simp only [hb, f1, f2, d0, d1, i0, i1, i2, net_eta, decide_eq_true_eq, decide_eq_false_iff_not, Int.toNat_natCast, inK_i64, true_and, and_true, decide_true, decide_false, Bool.not_true, Bool.not_false, Bool.true_eq_false, Bool.false_eq_true, false_implies, forall_const, and_false, false_and, Bool.not_eq_true', Bool.not_eq_false']
    exact ⟨fun _ => hk, fun h1 => ret _ (inB_no hb h1)⟩
  | true =>
    obtain ⟨n1, n5, m1, m5⟩ := inB5 hb
    have hn : ((n.toNat : Nat) : Int) = n := by omega
    obtain ⟨H, J⟩ := playN_inv hb s (m := 50) (by decide)
    simp only [hb, f1, f2, d0, d1, i0, i1, i2, net_eta, decide_eq_true_eq, decide_eq_false_iff_not, Int.toNat_natCast, inK_i64, true_and, and_true, decide_true, decide_false, Bool.not_true, Bool.not_false, Bool.true_eq_false, Bool.false_eq_true, false_implies, forall_const, and_false, false_and, Bool.not_eq_true', Bool.not_eq_false']
    refine ⟨⟨0, ⟨Nat.zero_le _, Nat.zero_le _⟩, rfl, rfl, rfl⟩, fun x ⟨hx, hx50⟩ => ⟨fun hlt => ⟨fun hlt50 => ?A, fun hge => ?B⟩, fun hge => ?C⟩⟩
    case A =>
      obtain ⟨H', J'⟩ := play_inv n1 n5 s x hx (by omega)
      refine ⟨by omega, hlt, fun l3 => ⟨⟨by omega, by omega, by omega, by omega, by omega, by omega⟩, J'.sh, fun l2 => absurd l3 (by omega), fun _ => ?_⟩, fun l3 => ⟨fun l2 => ⟨⟨by omega, by omega, by omega, by omega⟩, J'.sh, ?_⟩, fun l2 => ?_⟩⟩
      · have e := step3 (t := playF n.toNat s x) (l := s.getD x []) (by omega)
        rw [← play_succ] at e
        exact ⟨by omega, x + 1, ⟨by omega, by omega⟩, by omega, by omega, by rw [e], by rw [e]⟩
      · have e := step2 (t := playF n.toNat s x) (l := s.getD x []) (by omega)
        rw [← play_succ] at e
        exact ⟨by omega, x + 1, ⟨by omega, by omega⟩, by omega, by omega, by rw [e], by rw [e]⟩
      · have e := step0 (t := playF n.toNat s x) (l := s.getD x []) (by omega) (by omega)
        rw [← play_succ] at e
        exact ⟨by omega, x + 1, ⟨by omega, by omega⟩, by omega, by omega, by rw [e], by rw [e]⟩
    all_goals
      have ex : playF n.toNat s x = playN n s 50 := by
        show _ = playF n.toNat s (min s.length 50)
        rw [show x = min s.length 50 by omega]
      rw [ex]
      refine ⟨J.nlen, J.sh, fun _ => hk, fun h0 => ?_⟩
      have hin := writeE_in h0
      obtain ⟨⟨p0, p1⟩, q0, q1⟩ := inNet_iff.1 hin
      rw [J.len] at p1
      obtain ⟨H3, K3⟩ := (show NInv n.toNat (fun _ _ => True) H (playN n s 50) from { J with hW := fun _ _ _ _ => trivial }).write p q v fun _ => trivial
      have hin3 : inNet (writeT (playN n s 50) p q v) p q = true := inNet_iff.2 ⟨⟨p0, by rw [K3.len]; exact p1⟩, q0, q1⟩
      have hnow : readF (writeT (playN n s 50) p q v) p q = [newV (playN n s 50) p q v] := by
        rw [rd_eq K3 hin3, write_at J h0, if_pos ⟨rfl, rfl⟩]
      have hnow' : nowT n s p q v = [newV (playN n s 50) p q v] := hnow
      have hhad : hadT n s p q = vAt (playN n s 50) p.toNat q.toNat := rd_eq J hin
      have e0 : ∀ y : Va, [y].getD 0 va0 = y := fun _ => rfl
      have el : ∀ y : Va, [y].length = 1 := fun _ => rfl
      have hnl := newV_len J p q v
      have er : readF (playN n s 50) p q = hadT n s p q := rfl
      simp only [hnow, hnow', e0, el, hnl, er, h0, accU_len, and_true]
      refine ⟨K3.nlen, fun h => absurd rfl h, fun _ => ⟨fun h => absurd h (by omega), fun _ => ⟨fun h => absurd h (by omega), fun _ => ⟨by omega, by decide, fun h => absurd hn h, fun _ => ⟨by omega, by omega, by omega, ⟨0, Nat.zero_le _, rfl, rfl⟩, fun y hy => ⟨fun hly => ?_, fun hgy => ⟨⟨0, Nat.zero_le _, rfl⟩, fun z hz => ⟨fun hlz => ?_, fun _ => hk⟩⟩⟩⟩⟩⟩⟩⟩
      · have hyl : y < (vAt (playN n s 50) p.toNat q.toNat).length := by rw [← hhad]; omega
        obtain ⟨a1, a2⟩ := most_acc J hyl
        have hfew := J.few p.toNat q.toNat
        rw [hhad]
        refine ⟨by omega, by omega, fun h => absurd a1 h, fun _ => ⟨by omega, y + 1, by omega, by omega, a2, by omega⟩⟩
      · have hzn : z < n.toNat := by omega
        have hg := newV_get J h0 hzn
        have ha := acc_wr J (p := p.toNat) (q := q.toNat) hzn
        have hyl : y = (vAt (playN n s 50) p.toNat q.toNat).length := by rw [← hhad]; omega
        rw [hhad, hyl]
        by_cases hzp : (z : Int) = p
        · have hz2 : z = p.toNat := by omega
          rw [if_pos hz2] at hg
          rw [← hz2] at hg
          rw [decide_eq_true hzp, decide_eq_false (p := _ ≤ _) (by omega)]
          refine ⟨⟨fun h => absurd hzp h, fun _ => ⟨fun _ => ⟨by omega, by decide, by omega, by omega, by omega, by omega⟩, fun _ => trivial⟩⟩, fun h => absurd h (by simp), fun _ => ⟨by omega, z + 1, by omega, by omega, by omega⟩⟩
        · rw [if_neg (by omega)] at hg
          rw [decide_eq_false hzp, decide_eq_true hg]
          refine ⟨⟨fun _ => ⟨by omega, by decide, by omega, by omega, by omega, by omega, fun _ => trivial, fun _ => ⟨fun h => absurd h hzp, fun _ => trivial⟩⟩, fun h => absurd h hzp⟩, fun h => absurd h (by simp), fun _ => ⟨by omega, z + 1, by omega, by omega, by omega⟩⟩
theorem okLawTM : PlainOk Try.prog [] 9 cLawTM := by
  refine plain_of (CxOk.mk' Egs_ok (by kernel_rfl) mixed (gl := []) (GOk.cons okMost Try.func18 (by kernel_rfl) (by kernel_rfl) (GOk.cons okInts Try.func19 (by kernel_rfl) (by kernel_rfl) GOk.nil)) (GoOk.cons ownRead Try.func24 (by kernel_rfl) (by kernel_rfl) (GoOk.cons ownSync Try.func26 (by kernel_rfl) (by kernel_rfl) (GoOk.cons ownWrite Try.func28 (by kernel_rfl) (by kernel_rfl) (GoOk.cons ownNew Try.func29 (by kernel_rfl) (by kernel_rfl) GoOk.nil)))) noIt) Try.func9 (c := Try.f9.body.getD .skip) (rvs := [(.tmp 10, .bool)]) (by kernel_rfl) (by kernel_rfl) (by kernel_rfl) ?_
  intro ds k ⟨hp, hk⟩ hwf
  obtain ⟨n, s, p, q, v, rfl, -⟩ := dest5 hp
  exact ⟨anTM n s p q v, lawTM_vc n s p q v (hwf ⟨.sl (.sl I), s⟩ (by simp)).1 k hk⟩
end Go.Proofs.Ytgcliogognkdkaa
