/- VC framework, part T: whatever order is drawn, the head of the region does what its walk says; then comes its tail. -/
import Derived.Test.YtgbpjjinhjikeaaVcS
namespace Go.Vc
open Go.RowKit

def settled (all : List Oper) (n : Nat) (listed : Array Bool) (s : Nat) : Bool :=
  (List.range n).all fun k => match all[k]? with
    | some o => match o.dst with
      | some d => if d = s then listed.getD k false else true
      | none => true
    | none => true

theorem settled_spec {all : List Oper} {n s : Nat} {listed : Array Bool} : settled all n listed s = true ↔ ∀ (k : Nat) o, k < n → all[k]? = some o → o.dst = some s → listed.getD k false = true := by
  unfold settled
  rw [List.all_eq_true]
  constructor
  · intro h k o hk ho hd
    have := h k (List.mem_range.2 hk)
    simpa [ho, hd] using this
  · intro h k hk
    have hk := List.mem_range.1 hk
    split
    · rename_i o ho
      split
      · rename_i d hd
        split
        · rename_i e; subst e; exact h k o hk ho hd
        · rfl
      · rfl
    · rfl

theorem waits_spec {all : List Oper} {i k : Nat} (h : waits all i k = true) : ∃ o, all[i]? = some o ∧ ∃ e ∈ o.after, Region.binds .any e = true ∧ e.on = k := by
  unfold waits at h
  split at h
  · rename_i o ho
    obtain ⟨e, he, hb⟩ := List.any_eq_true.1 h
    simp only [Bool.and_eq_true, beq_iff_eq] at hb
    exact ⟨o, ho, e, by simpa using he, hb.1, hb.2⟩
  · cases h

/-- All edges of the head go back. -/
def backB (all : List Oper) (n : Nat) : Bool :=
  (List.range n).all fun i => match all[i]? with
    | some o => o.after.toList.all fun e => !Region.binds .any e || decide (e.on < i)
    | none => true
def oneB (all : List Oper) (n : Nat) : Bool :=
  (List.range n).all fun i => (List.range n).all fun j => match all[i]?, all[j]? with
    | some oi, some oj => match oi.dst, oj.dst with
      | some d, some e => if d = e then decide (i = j) else true
      | _, _ => true
    | _, _ => true
def listedN (n m : Nat) : Array Bool := (List.replicate n true ++ List.replicate (m - n) false).toArray
def mixB (all : List Oper) (n : Nat) : Bool :=
  decide (n ≤ all.length) && backB all n && oneB all n && (decide (n = all.length) || (decide (n < all.length) && Region.sinkB .any all.toArray n && Region.chainB .any all.toArray n)) &&
    Region.seqB .any all.toArray (all.length - n) n (listedN n all.length)

theorem oneB_spec {all : List Oper} {n : Nat} (h : oneB all n = true) : DstOne all n := by
  intro i j oi oj d hi hj hoi hoj hdi hdj
  have h1 := List.all_eq_true.1 (List.all_eq_true.1 h i (List.mem_range.2 hi)) j (List.mem_range.2 hj)
  simpa [hoi, hoj, hdi, hdj] using h1

theorem backB_spec {all : List Oper} {n i : Nat} {o : Oper} (h : backB all n = true) (hi : i < n) (ho : all[i]? = some o) : ∀ e ∈ o.after, Region.binds .any e = true → e.on < i := by
  intro e he hb
  have h1 := List.all_eq_true.1 h i (List.mem_range.2 hi)
  simp only [ho] at h1
  have h2 := List.all_eq_true.1 h1 e (by simpa using he)
  simpa [hb] using h2

def left (n : Nat) (listed : Array Bool) : List Nat := (List.range n).filter fun i => !listed.getD i false

theorem left_set {n i : Nat} {listed : Array Bool} (hi : i < n) (hs : i < listed.size) (hun : listed.getD i false = false) : (left n (listed.setIfInBounds i true)).length + 1 = (left n listed).length := by
  have hf : left n (listed.setIfInBounds i true) = (left n listed).erase i := by
    have hnd : (left n listed).Nodup := List.Pairwise.filter _ List.nodup_range
    rw [hnd.erase_eq_filter]
    unfold left
    rw [List.filter_filter]
    apply List.filter_congr
    intro j _
    by_cases hji : i = j
    · subst hji
      simp [hs]
    · rw [getD_set_ne false hji]
      have : (j != i) = true := by simpa using fun h => hji h.symm
      simp [this]
  have hm : i ∈ left n listed := by
    unfold left
    rw [List.mem_filter]
    exact ⟨List.mem_range.2 hi, by simp [hun]⟩
  rw [hf, List.length_erase_of_mem hm]
  have := List.length_pos_of_mem hm
  omega

theorem any_ok {P : Program} {all : List Oper} {n : Nat} {F : St} (hop : ∀ (i : Nat) o, i < n → all[i]? = some o → OpOk P all n i o F) (hB : mixB all n = true) {w0 : World} {M R0 : Nat → Prop} {A : Asg} {Q : Exit → Act → World → Prop}
    (hend : ∀ a w, Inv w0 M R0 A F a w → wpList P all.toArray Q (all.drop n) a w) :
    ∀ (f : Nat) (listed : Array Bool) (a : Act) (w : World), HeadInv .any all.toArray n listed → (left n listed).length = f → Inv w0 M R0 A (F.mask (settled all n listed)) a w → wpAny P .any all.toArray Q (f + (all.length - n)) listed a w := by
  simp only [mixB, Bool.and_eq_true, decide_eq_true_eq, Bool.or_eq_true] at hB
  obtain ⟨⟨⟨⟨hn, hback⟩, hone⟩, htail⟩, hseq⟩ := hB
  intro f
  induction f with
  | zero =>
    intro listed a w inv hf I
    have hall : ∀ i, i < n → listed.getD i false = true := by
      intro i hi
      cases h : listed.getD i false with
      | true => rfl
      | false =>
        have : i ∈ left n listed := by unfold left; rw [List.mem_filter]; exact ⟨List.mem_range.2 hi, by simp [h]⟩
        rw [List.eq_nil_of_length_eq_zero hf] at this
        cases this
    have hsz : listed.size = all.length := by simpa using inv.size
    have hl : listed = listedN n all.length := by
      apply Array.ext
      · rw [hsz]; simp [listedN]; omega
      · intro i h1 h2
        by_cases hi : i < n
        · have := hall i hi
          simp only [Array.getD, h1, dif_pos] at this
          simp only [listedN, List.getElem_toArray]
          rw [List.getElem_append_left (by simpa using hi)]
          simpa using this
        · have := inv.tail i (by omega) (by simpa using (hsz ▸ h1))
          simp only [Array.getD, h1, dif_pos] at this
          simp only [listedN, List.getElem_toArray]
          rw [List.getElem_append_right (by simpa using hi)]
          simpa using this
    have IF : Inv w0 M R0 A F a w := by
      refine I.weaken rfl mask_len.symm fun j s hs => .inr ⟨s, mask_mk ?_ hs, SvEq.refl s⟩
      rw [settled_spec]
      intro k o hk _ _
      exact hall k hk
    rw [Nat.zero_add, hl]
    have := wpAny_of_seq (P := P) (md := .any) (ops := all.toArray) (Q' := Q) (all.drop n) n (listedN n all.length) a w (fun j => by simp [List.getElem?_drop]) (by simpa using hseq) (hend a w IF)
    simpa using this
  | succ f ih =>
    intro listed a w inv hf I
    have hsz : listed.size = all.length := by simpa using inv.size
    -- somebody is ready
    have hex : ∃ i, i < n ∧ listed.getD i false = false := by
      cases hq : left n listed with
      | nil => rw [hq] at hf; simp at hf
      | cons i r =>
        have : i ∈ left n listed := by rw [hq]; exact List.mem_cons_self ..
        unfold left at this
        rw [List.mem_filter] at this
        exact ⟨i, List.mem_range.1 this.1, by simpa using this.2⟩
    have hleast : ∃ i, i < n ∧ listed.getD i false = false ∧ ∀ j, j < i → listed.getD j false = true := by
      obtain ⟨i, hi, hu⟩ := hex
      induction i using Nat.strongRecOn with
      | _ i ihi =>
        by_cases hc : ∃ j, j < i ∧ listed.getD j false = false
        · obtain ⟨j, hj, hju⟩ := hc
          exact ihi j hj (by omega) hju
        · refine ⟨i, hi, hu, fun j hj => ?_⟩
          cases hq : listed.getD j false with
          | true => rfl
          | false => exact absurd ⟨j, hj, hq⟩ hc
    obtain ⟨i0, hi0, hu0, hb0⟩ := hleast
    have hi0l : i0 < all.length := by omega
    have hr0 : i0 ∈ Region.ready .any all.toArray listed := by
      rw [mem_ready]
      refine ⟨getD_in (by omega) hu0, all[i0], by simp [hi0l], fun e he hb => hb0 _ (backB_spec hback hi0 (List.getElem?_eq_getElem hi0l) e he hb)⟩
    have hlt : ∀ i, i ∈ Region.ready .any all.toArray listed → i < n := by
      intro i hi
      rcases Nat.lt_or_ge i n with h | h
      · exact h
      · rcases htail with ht | ⟨⟨ht, hs⟩, hc⟩
        · obtain ⟨_, o, ho, _⟩ := mem_ready.1 hi
          have := (Array.getElem?_eq_some_iff.1 ho).1
          simp at this; omega
        · exact absurd hi (tail_waits hs hc (by simpa using ht) inv _ i0 rfl hi0 (getD_in (by omega) hu0) i h)
    rw [show f + 1 + (all.length - n) = (f + (all.length - n)) + 1 by omega]
    refine And.intro (fun h0 => absurd (h0 ▸ hr0) (by simp)) (fun i hi => ?_)
    have hin := hlt i hi
    obtain ⟨hun, oi, hoi, hedge⟩ := mem_ready.1 hi
    have hoi' : all[i]? = some oi := by simpa using hoi
    have hil : i < listed.size := by omega
    have hunf : listed.getD i false = false := by
      simp only [Array.getD, hil, dif_pos] at hun ⊢
      exact hun
    refine hop i oi hin hoi' w0 M R0 A a w ?_ _ _ fun v w' hsm hex' hsv => ?_
    · refine I.weaken rfl (by rw [mask_len, mask_len]) fun j s hs => ?_
      rcases mask_get hs with rfl | ⟨hkn, hs'⟩
      · exact .inl rfl
      · refine .inr ⟨s, mask_mk ?_ hs', SvEq.refl s⟩
        rw [settled_spec]
        intro k o hk ho hd
        obtain ⟨_, hw⟩ := known_spec hkn hk ho hd
        obtain ⟨o', ho', e, he, hb, hon⟩ := waits_spec hw
        rw [hoi'] at ho'; injection ho' with ho'; subst ho'
        rw [← hon]; exact hedge e he hb
    · refine ih _ _ _ (inv.set hi hin) (by have := left_set hin hil hunf; omega) ?_
      have I1 := I.ext hsm hex'
      -- the new value, if the slot is one of the state's
      have hset : ∀ j, settled all n (listed.setIfInBounds i true) j = true → oi.dst ≠ some j → settled all n listed j = true := by
        intro j hj hne
        rw [settled_spec] at hj ⊢
        intro k o hk ho hd
        have := hj k o hk ho hd
        by_cases hik : i = k
        · subst hik
          rw [hoi'] at ho; injection ho with ho; subst ho
          exact absurd hd hne
        · rw [getD_set_ne false hik] at this; exact this
      cases hd : oi.dst with
      | none =>
        have hp : a.put none v = a := rfl
        rw [hp]
        refine I1.weaken rfl (by rw [mask_len, mask_len]) fun j s hs => ?_
        rcases mask_get hs with rfl | ⟨hkn, hs'⟩
        · exact .inl rfl
        · exact .inr ⟨s, mask_mk (hset j hkn (by rw [hd]; simp)) hs', SvEq.refl s⟩
      | some x =>
        by_cases hx : x < F.tm.length
        · have I2 := I1.put (d := some x) (s := F.tm[x]) (v := v) (hsv x _ hd (List.getElem?_eq_getElem hx))
          refine I2.weaken (by rw [St.put_ob]; rfl) (by rw [St.put_len, mask_len, mask_len]) fun j s hs => ?_
          rcases mask_get hs with rfl | ⟨hkn, hs'⟩
          · exact .inl rfl
          · by_cases hxj : x = j
            · subst hxj
              rw [List.getElem?_eq_getElem hx] at hs'; injection hs' with hs'
              refine .inr ⟨s, ?_, SvEq.refl s⟩
              simp only [St.put]
              rw [List.getElem?_set_self (by rw [mask_len]; exact hx), hs']
            · refine .inr ⟨s, ?_, SvEq.refl s⟩
              simp only [St.put]
              rw [List.getElem?_set_ne hxj]
              exact mask_mk (hset j hkn (by rw [hd]; simpa using hxj)) hs'
        · have I2 := I1.put (d := some x) (s := .any) (v := v) trivial
          refine I2.weaken (by rw [St.put_ob]; rfl) (by rw [St.put_len, mask_len, mask_len]) fun j s hs => ?_
          rcases mask_get hs with rfl | ⟨hkn, hs'⟩
          · exact .inl rfl
          · have hjl := (List.getElem?_eq_some_iff.1 hs').1
            have hxj : x ≠ j := fun e => hx (e ▸ hjl)
            refine .inr ⟨s, ?_, SvEq.refl s⟩
            simp only [St.put]
            rw [List.getElem?_set_ne hxj]
            exact mask_mk (hset j hkn (by rw [hd]; simpa using hxj)) hs'

/-- A REGION THAT DRAWS ITS ORDER. -/
theorem mix_ok {P : Program} {X : Cx} (hX : CxOk P X) {all : List Oper} {n : Nat} (hB : mixB all n = true) {w0 : World} {M R0 : Nat → Prop} {A : Asg} {st : St} {a : Act} {w : World} (I : Inv w0 M R0 A st a w) {k : St → Prop}
    (h : xqm X all n 0 (all.take n) st k) {id : Nat} {Q : Exit → Act → World → Prop} (hend : ∀ st' a' w', k st' → Inv w0 M R0 A st' a' w' → wpList P all.toArray Q (all.drop n) a' w') : (Code.region id all.toArray true).wp P Q a w := by
  have hB' := hB
  simp only [mixB, Bool.and_eq_true, decide_eq_true_eq, Bool.or_eq_true] at hB'
  obtain ⟨⟨⟨⟨hn, hback⟩, hone⟩, htail⟩, hseq⟩ := hB'
  have htl : (all.take n).length = n := by simp; omega
  obtain ⟨F, hk, hob, hlen, hun, hops⟩ := xqm_trace (P := P) hX (oneB_spec hone) (l := all.take n) (i := 0) (fun j hj => by
    rw [htl] at hj; simp [hj]) (by omega) h
  refine wp_region_any hX.m ?_
  have I' := I.ext (Cls.drawn w).1 (Cls.drawn w).2
  have inv0 : HeadInv .any all.toArray n (Array.replicate all.length false) :=
    ⟨by simp, fun j oj _ hl => (by rw [getD_replicate_false] at hl; cases hl), fun t _ ht => getD_in (by simpa using ht) (getD_replicate_false _ _)⟩
  have hleft : (left n (Array.replicate all.length false)).length = n := by
    unfold left
    rw [List.filter_eq_self.2 (fun i _ => by rw [getD_replicate_false]; rfl)]
    simp
  have := any_ok (P := P) (F := F) (Q := Q) (fun i o hi ho => by
    have := hops i o (by rw [List.getElem?_take, if_pos hi]; exact ho)
    rwa [Nat.zero_add] at this) hB (w0 := w0) (M := M) (R0 := R0) (A := A) (fun a' w' hI => hend F a' w' hk hI) n (Array.replicate all.length false) a { w with drawn := w.drawn + 1 } inv0 hleft ?_
  · rw [show n + (all.length - n) = all.length by omega] at this
    simpa using this
  · refine I'.weaken (by show F.ob = st.ob; exact hob) (by rw [mask_len, hlen]) fun j s hs => ?_
    rcases mask_get hs with rfl | ⟨hkn, hs'⟩
    · exact .inl rfl
    · rw [settled_spec] at hkn
      have hno : ∀ (i : Nat) o, (all.take n)[i]? = some o → o.dst ≠ some j := by
        intro i o ho hd
        rw [List.getElem?_take] at ho
        split at ho
        · rename_i hi
          have := hkn i o hi ho hd
          rw [getD_replicate_false] at this
          cases this
        · cases ho
      have hjl : j < st.tm.length := by rw [← hlen]; exact (List.getElem?_eq_some_iff.1 hs').1
      obtain ⟨s2, hs2, e2⟩ := hun j _ hno (List.getElem?_eq_getElem hjl)
      rw [hs'] at hs2; injection hs2 with hs2; subst hs2
      exact .inr ⟨_, List.getElem?_eq_getElem hjl, e2⟩
end Go.Vc
