/- Own texts, merged: SM, SLaw, SLaw2. -/
import Derived.Test.YtjgdpblaghhfhaaTSRowZ1
/- Tables of who knows what who knows: what writing and telling does (mathematics). -/
namespace Go.Proofs.Ytjgdpblaghhfhaa.T
open Go.Vc
theorem at_tell1 {k : L3} {n : Nat} (h : Shp k n) {f t : Nat} (hf : f < n) (ht : t < n) (hne : f ≠ t) : ∀ m, m ≤ n → ∀ a b c, at3 (tell1 k f t m) a b c = if a = t ∧ b = t ∧ c < m then max (at3 k t t c) (at3 k f f c) else at3 k a b c
  | 0, _, a, b, c => by rw [if_neg (by omega)]; rfl
  | m + 1, hm, a, b, c => by
    have ih := at_tell1 h hf ht hne m (by omega)
    show at3 (wr3 _ t t m _) a b c = _
    have e1 : at3 (tell1 k f t m) t t m = at3 k t t m := (ih t t m).trans (if_neg (by omega))
    have e2 : at3 (tell1 k f t m) f f m = at3 k f f m := (ih f f m).trans (if_neg (by omega))
    rw [at_wr (tell1_shp h ht m) _ ht ht (by omega), e1, e2, ih a b c]
    by_cases h1 : t = a ∧ t = b ∧ m = c
    · obtain ⟨rfl, rfl, rfl⟩ := h1
      rw [if_pos ⟨rfl, rfl, rfl⟩, if_pos ⟨rfl, rfl, by omega⟩]
    · rw [if_neg h1]
      by_cases h2 : a = t ∧ b = t ∧ c < m
      · rw [if_pos h2, if_pos ⟨h2.1, h2.2.1, by omega⟩]
      · rw [if_neg h2, if_neg (by omega)]
theorem at_tellR {k : L3} {n : Nat} (h : Shp k n) {f t j : Nat} (hf : f < n) (ht : t < n) (hj : j < n) (hne : f ≠ t) : ∀ m, m ≤ n → ∀ a b c, at3 (tellR k f t j m) a b c = if a = t ∧ b = j ∧ c < m then max (at3 k t j c) (at3 k f j c) else at3 k a b c
  | 0, _, a, b, c => by rw [if_neg (by omega)]; rfl
  | m + 1, hm, a, b, c => by
    have ih := at_tellR h hf ht hj hne m (by omega)
    show at3 (wr3 _ t j m _) a b c = _
    have e1 : at3 (tellR k f t j m) t j m = at3 k t j m := (ih t j m).trans (if_neg (by omega))
    have e2 : at3 (tellR k f t j m) f j m = at3 k f j m := (ih f j m).trans (if_neg (by omega))
    rw [at_wr (tellR_shp h ht hj m) _ ht hj (by omega), e1, e2, ih a b c]
    by_cases h1 : t = a ∧ j = b ∧ m = c
    · obtain ⟨rfl, rfl, rfl⟩ := h1
      rw [if_pos ⟨rfl, rfl, rfl⟩, if_pos ⟨rfl, rfl, by omega⟩]
    · rw [if_neg h1]
      by_cases h2 : a = t ∧ b = j ∧ c < m
      · rw [if_pos h2, if_pos ⟨h2.1, h2.2.1, by omega⟩]
      · rw [if_neg h2, if_neg (by omega)]
theorem at_tellA {k : L3} {n : Nat} (h : Shp k n) {f t : Nat} (hf : f < n) (ht : t < n) (hne : f ≠ t) : ∀ j, j ≤ n → ∀ a b c, c < n → at3 (tellA k f t n j) a b c = if a = t ∧ b < j then max (at3 k t b c) (at3 k f b c) else at3 k a b c
  | 0, _, a, b, c, _ => by rw [if_neg (by omega)]; rfl
  | j + 1, hj, a, b, c, hc => by
    have ih := at_tellA h hf ht hne j (by omega)
    show at3 (tellR (tellA k f t n j) f t j n) a b c = _
    have e1 : at3 (tellA k f t n j) t j c = at3 k t j c := (ih t j c hc).trans (if_neg (by omega))
    have e2 : at3 (tellA k f t n j) f j c = at3 k f j c := (ih f j c hc).trans (if_neg (by omega))
    rw [at_tellR (tellA_shp h ht j (by omega)) hf ht (by omega) hne n (Nat.le_refl n), e1, e2, ih a b c hc]
    by_cases h1 : a = t ∧ b = j ∧ c < n
    · obtain ⟨rfl, rfl, _⟩ := h1
      rw [if_pos ⟨rfl, rfl, hc⟩, if_pos ⟨rfl, by omega⟩]
    · rw [if_neg h1]
      by_cases h2 : a = t ∧ b < j
      · rw [if_pos h2, if_pos ⟨h2.1, by omega⟩]
      · rw [if_neg h2, if_neg (by omega)]
/-- what one knows who was told -/
def told (k : L3) (f t b c : Nat) : Int := if b = t then max (max (at3 k t t c) (at3 k f f c)) (at3 k f t c) else max (at3 k t b c) (at3 k f b c)
theorem tell_at {kn : L3} {dn : List Int} (t : TbOk kn dn) {f g : Nat} (hf : f < kn.length) (hg : g < kn.length) (hne : f ≠ g) :
    tE kn dn (f : Int) (g : Int) = 0 ∧ Shp (tK kn dn (f : Int) (g : Int)) kn.length ∧ ∀ a b c, a < kn.length → b < kn.length → c < kn.length → at3 (tK kn dn (f : Int) (g : Int)) a b c = if a = g then told kn f g b c else at3 kn a b c := by
  rw [tE_eq, tK_eq]
  unfold tellF
  have i1 : inB (f : Int) 0 ((kn.length : Int) - 1) = true := inB_iff.2 (by omega)
  have i2 : inB (g : Int) 0 ((kn.length : Int) - 1) = true := inB_iff.2 (by omega)
  simp only
  rw [if_neg (by rw [i1, i2]; decide), if_neg (by omega), Int.toNat_natCast, Int.toNat_natCast]
  refine ⟨rfl, tellA_shp (tell1_shp t.sh hg _) hg _ (Nat.le_refl _), fun a b c ha hb hc => ?_⟩
  have h1 := at_tell1 t.sh hf hg hne kn.length (Nat.le_refl _)
  simp only
  rw [at_tellA (tell1_shp t.sh hg _) hf hg hne kn.length (Nat.le_refl _) a b c hc, h1 g b c, h1 f b c, h1 a b c]
  unfold told
  by_cases e1 : a = g
  · rw [if_pos ⟨e1, hb⟩, if_pos e1, if_neg (show ¬ (f = g ∧ b = g ∧ c < kn.length) by omega)]
    by_cases e2 : b = g
    · rw [if_pos ⟨rfl, e2, hc⟩, if_pos e2, e2]
    · rw [if_neg (show ¬ (g = g ∧ b = g ∧ c < kn.length) by omega), if_neg e2]
  · rw [if_neg (show ¬ (a = g ∧ b < kn.length) by omega), if_neg (show ¬ (a = g ∧ b = g ∧ c < kn.length) by omega), if_neg e1]
theorem told_ge (k : L3) (f t b c : Nat) : at3 k t b c ≤ told k f t b c := by
  unfold told
  split
  · rename_i h; subst h; omega
  · omega
theorem tell_other {kn : L3} {dn : List Int} {f g : Int} (h : ¬ (0 ≤ f ∧ f < (kn.length : Int) ∧ 0 ≤ g ∧ g < (kn.length : Int) ∧ f ≠ g)) : tK kn dn f g = kn := by
  rw [tK_eq]; unfold tellF
  by_cases h1 : (inB f 0 ((kn.length : Int) - 1) && inB g 0 ((kn.length : Int) - 1)) = false
  · rw [if_pos h1]
  · rw [if_neg h1]
    have h2 : (inB f 0 ((kn.length : Int) - 1) && inB g 0 ((kn.length : Int) - 1)) = true := by simpa using h1
    rw [Bool.and_eq_true] at h2
    have i1 := inB_iff.1 h2.1
    have i2 := inB_iff.1 h2.2
    rw [if_pos (by omega)]
/-- Telling keeps a table, and nobody forgets. -/
theorem tell_ok {kn : L3} {dn : List Int} (t : TbOk kn dn) (f g : Int) : TbOk (tK kn dn f g) dn ∧ (tK kn dn f g).length = kn.length ∧ (∀ a b c, a < kn.length → b < kn.length → c < kn.length → at3 kn a b c ≤ at3 (tK kn dn f g) a b c) ∧
    (Snd kn kn.length → Snd (tK kn dn f g) kn.length) := by
  by_cases h : 0 ≤ f ∧ f < (kn.length : Int) ∧ 0 ≤ g ∧ g < (kn.length : Int) ∧ f ≠ g
  · obtain ⟨F, rfl⟩ := Int.eq_ofNat_of_zero_le h.1
    obtain ⟨G, rfl⟩ := Int.eq_ofNat_of_zero_le h.2.2.1
    have hF : F < kn.length := by omega
    have hG : G < kn.length := by omega
    obtain ⟨-, sh, hat⟩ := tell_at t hF hG (by omega)
    have hl := sh.a
    have hge : ∀ a b c, a < kn.length → b < kn.length → c < kn.length → at3 kn a b c ≤ at3 (tK kn dn (F : Int) (G : Int)) a b c := by
      intro a b c ha hb hc
      rw [hat a b c ha hb hc]
      split
      · rename_i e; subst e; exact told_ge kn F a b c
      · exact Int.le_refl _
    have hv : ∀ b c, b < kn.length → c < kn.length → 0 ≤ told kn F G b c ∧ told kn F G b c ≤ dn.getD c 0 := by
      intro b c hb hc
      have v1 := t.v G G c hG hG hc
      have v2 := t.v F F c hF hF hc
      have v3 := t.v F G c hF hG hc
      have v4 := t.v G b c hG hb hc
      have v5 := t.v F b c hF hb hc
      unfold told
      split <;> omega
    refine ⟨⟨by rw [hl]; exact t.n1, by rw [hl]; exact t.n5, by rw [hl]; exact sh, by rw [hl]; exact t.dl, fun a b c ha hb hc => ?_, fun c hc => t.d c (by omega), fun c hc => ?_⟩, hl, hge, fun s a b c ha hb hc => ?_⟩
    · rw [hl] at ha hb hc
      rw [hat a b c ha hb hc]
      split
      · exact hv b c hb hc
      · exact t.v a b c ha hb hc
    · rw [hl] at hc
      have e := t.e c hc
      rw [hat c c c hc hc hc]
      split
      · rename_i ec
        have h1 := told_ge kn F G c c
        have h2 := hv c c hc hc
        rw [← ec] at h1 h2 ⊢
        omega
      · exact e
    · rw [hat a b c ha hb hc]
      split
      · rename_i ea
        subst ea
        by_cases eb : b = a
        · subst eb
          rw [hat b b c hb hb hc, if_pos rfl]; exact Int.le_refl _
        · have h1 : told kn F a b c = max (at3 kn a b c) (at3 kn F b c) := by unfold told; rw [if_neg eb]
          rw [h1, hat b b c hb hb hc, if_neg eb]
          have := s a b c ha hb hc
          have := s F b c hF hb hc
          omega
      · have := s a b c ha hb hc
        have := hge b b c hb hb hc
        omega
  · rw [tell_other h]
    exact ⟨t, rfl, fun _ _ _ _ _ _ => Int.le_refl _, fun s => s⟩
theorem getD_setI (l : List Int) (i j : Nat) (v : Int) (hi : i < l.length) : (l.set i v).getD j 0 = if i = j then v else l.getD j 0 := getD_set l i j v 0 hi
/-- Writing keeps a table. -/
theorem write_ok {kn : L3} {dn : List Int} (t : TbOk kn dn) (p : Int) : TbOk (wK kn dn p) (wD kn dn p) ∧ (wK kn dn p).length = kn.length ∧ (∀ a b c, a < kn.length → b < kn.length → c < kn.length → at3 kn a b c ≤ at3 (wK kn dn p) a b c) ∧
    (Snd kn kn.length → Snd (wK kn dn p) kn.length) ∧ (wE kn dn p = 0 → 0 ≤ p ∧ p < (kn.length : Int) ∧ wD kn dn p = dn.set p.toNat (dn.getD p.toNat 0 + 1)) ∧ (wE kn dn p ≠ 0 → wK kn dn p = kn ∧ wD kn dn p = dn) := by
  rw [wK_eq, wD_eq, wE_eq]
  unfold writeF
  simp only
  by_cases h : inB p 0 ((kn.length : Int) - 1) = false
  · rw [if_pos h]
    exact ⟨t, rfl, fun _ _ _ _ _ _ => Int.le_refl _, fun s => s, fun h => absurd (show (1 : Int) = 0 from h) (by decide), fun _ => ⟨rfl, rfl⟩⟩
  rw [if_neg h]
  by_cases h2 : dn.getD p.toNat 0 = 60
  · rw [if_pos h2]
    exact ⟨t, rfl, fun _ _ _ _ _ _ => Int.le_refl _, fun s => s, fun h => absurd (show (4 : Int) = 0 from h) (by decide), fun _ => ⟨rfl, rfl⟩⟩
  rw [if_neg h2]
  have hp := inB_iff.1 (show inB p 0 ((kn.length : Int) - 1) = true by simpa using h)
  have hP : p.toNat < kn.length := by omega
  have hD : p.toNat < dn.length := by rw [t.dl]; exact hP
  have sh := wr_shp t.sh p.toNat p.toNat p.toNat (at3 kn p.toNat p.toNat p.toNat + 1) hP hP
  have hat := fun a b c => at_wr t.sh (a := p.toNat) (b := p.toNat) (c := p.toNat) (at3 kn p.toNat p.toNat p.toNat + 1) hP hP hP a b c
  have hdn := fun j => getD_setI dn p.toNat j (dn.getD p.toNat 0 + 1) hD
  have hd := t.d p.toNat hP
  have he := t.e p.toNat hP
  have hge : ∀ a b c, a < kn.length → b < kn.length → c < kn.length → at3 kn a b c ≤ at3 (wr3 kn p.toNat p.toNat p.toNat (at3 kn p.toNat p.toNat p.toNat + 1)) a b c := by
    intro a b c _ _ _
    rw [hat a b c]
    split
    · rename_i e; obtain ⟨rfl, rfl, e3⟩ := e; rw [← e3]; omega
    · exact Int.le_refl _
  simp only
  refine ⟨⟨by rw [sh.a]; exact t.n1, by rw [sh.a]; exact t.n5, by rw [sh.a]; exact sh, by rw [sh.a, List.length_set]; exact t.dl, fun a b c ha hb hc => ?_, fun c hc => ?_, fun c hc => ?_⟩, sh.a, hge, fun s a b c ha hb hc => ?_, fun _ => ⟨hp.1, by omega, trivial⟩, fun h => absurd rfl h⟩
  · rw [sh.a] at ha hb hc
    have v := t.v a b c ha hb hc
    rw [hat a b c, hdn c]
    split
    · rename_i e
      have vp := t.v p.toNat p.toNat p.toNat hP hP hP
      rw [if_pos e.2.2]; omega
    · split
      · rename_i e; rw [← e] at v ⊢; omega
      · exact v
  · rw [sh.a] at hc
    have v := t.d c hc
    rw [hdn c]
    split <;> omega
  · rw [sh.a] at hc
    rw [hat c c c, hdn c]
    by_cases e : p.toNat = c
    · rw [if_pos ⟨e, e, e⟩, if_pos e, he]
    · rw [if_neg (fun h => e h.1), if_neg e]; exact t.e c hc
  · rw [hat a b c, hat b b c]
    have v := s a b c ha hb hc
    split
    · rename_i e; rw [if_pos ⟨e.2.1, e.2.1, e.2.2⟩]; exact Int.le_refl _
    · split
      · rename_i e; obtain ⟨rfl, _, e3⟩ := e; rw [← e3] at v ⊢; omega
      · exact v
theorem min_le {l : List Int} {x : Int} (h : x ∈ l) : minL l ≤ x := by
  have key : ∀ (r : List Int) (a : Int), r.foldl min a ≤ a ∧ ∀ y ∈ r, r.foldl min a ≤ y := by
    intro r
    induction r with
    | nil => intro a; exact ⟨Int.le_refl _, fun y hy => by cases hy⟩
    | cons z r ih =>
      intro a
      obtain ⟨h1, h2⟩ := ih (min a z)
      refine ⟨by show r.foldl min (min a z) ≤ a; omega, fun y hy => ?_⟩
      show r.foldl min (min a z) ≤ y
      rcases List.mem_cons.1 hy with rfl | hy
      · omega
      · exact h2 y hy
  cases l with
  | nil => cases h
  | cons z r =>
    show r.foldl min z ≤ x
    rcases List.mem_cons.1 h with rfl | h
    · exact (key r x).1
    · exact (key r z).2 x h
theorem min_mem {l : List Int} (h : l ≠ []) : minL l ∈ l := by
  have key : ∀ (r : List Int) (a : Int), r.foldl min a = a ∨ r.foldl min a ∈ r := by
    intro r
    induction r with
    | nil => intro a; exact .inl rfl
    | cons z r ih =>
      intro a
      show r.foldl min (min a z) = a ∨ r.foldl min (min a z) ∈ z :: r
      rcases ih (min a z) with h | h
      · rw [h]
        by_cases hz : a ≤ z
        · left; omega
        · right; have : min a z = z := by omega
          rw [this]; exact List.mem_cons_self ..
      · exact .inr (List.mem_cons_of_mem _ h)
  cases l with
  | nil => exact absurd rfl h
  | cons z r =>
    show r.foldl min z ∈ z :: r
    rcases key r z with h | h
    · rw [h]; exact List.mem_cons_self ..
    · exact List.mem_cons_of_mem _ h
theorem know_at (k : L3) (a b c : Nat) (ha : a < k.length) (hb : b < k.length) (hc : c < k.length) : knowX k (a : Int) (b : Int) (c : Int) = at3 k a b c := by
  rw [knowX_eq]; unfold knowF
  rw [if_pos (by rw [inB_iff.2 (by omega), inB_iff.2 (by omega), inB_iff.2 (by omega)]; rfl)]
  simp only [Int.toNat_natCast]
theorem stab_at (k : L3) (a c : Nat) (ha : a < k.length) (hc : c < k.length) : stabX k (a : Int) (c : Int) = minL (colF k a c k.length) := by
  rw [stabX_eq]; unfold stabF
  rw [if_pos (by rw [inB_iff.2 (by omega), inB_iff.2 (by omega)]; rfl)]
  simp only [Int.toNat_natCast]
theorem stab_le (k : L3) (a b c : Nat) (ha : a < k.length) (hb : b < k.length) (hc : c < k.length) : stabX k (a : Int) (c : Int) ≤ at3 k a b c := by
  rw [stab_at k a c ha hc]
  exact min_le (List.mem_map.2 ⟨b, List.mem_range.2 hb, rfl⟩)
theorem stab_all (k : L3) (a c : Nat) (ha : a < k.length) (hc : c < k.length) (v : Int) (h : ∀ b, b < k.length → at3 k a b c = v) : stabX k (a : Int) (c : Int) = v := by
  rw [stab_at k a c ha hc]
  have hm := min_mem (l := colF k a c k.length) (fun h0 => by
    have := congrArg List.length h0
    simp only [colF, List.length_map, List.length_range, List.length_nil] at this; omega)
  obtain ⟨b, hb, e⟩ := List.mem_map.1 hm
  rw [← e]; exact h b (List.mem_range.1 hb)
end Go.Proofs.Ytjgdpblaghhfhaa.T

/- Tables of who knows what who knows: the closed fact; all told all. -/
namespace Go.Proofs.Ytjgdpblaghhfhaa.T
open Go.Vc
theorem dnOf_mk (tm : List SV) (o0 o1 : Ob) (e : TypeId) (dn : List Int) (gs : List (GK × SV)) (k : List Int → Prop) : dnOf ⟨tm, [o0, o1, .row e (.int .i64) dn], gs⟩ k = k dn := rfl
theorem new_ok {n : Int} (h : 1 ≤ n ∧ n ≤ 5) : TbOk (newK n.toNat) (List.replicate n.toNat 0) ∧ (newK n.toNat).length = n.toNat ∧ ∀ a b c, at3 (newK n.toNat) a b c = 0 := by
  have hl : (newK n.toNat).length = n.toNat := List.length_replicate
  have h1 : ∀ {α : Type} (m i : Nat) (x d : α), (List.replicate m x).getD i d = if i < m then x else d := by
    intro α m i x d
    rw [List.getD_eq_getElem?_getD, List.getElem?_replicate]
    split <;> rfl
  have hat : ∀ a b c, at3 (newK n.toNat) a b c = 0 := by
    intro a b c
    unfold at3 newK
    rw [h1]
    split
    · rw [h1]
      split
      · rw [h1]; split <;> rfl
      · rfl
    · rfl
  have hr : ∀ c, (List.replicate n.toNat (0 : Int)).getD c 0 = 0 := by intro c; rw [h1]; split <;> rfl
  refine ⟨⟨by omega, by omega, ⟨rfl, fun i hi => ?_, fun i j hi hj => ?_⟩, by rw [hl, List.length_replicate], fun a b c _ _ _ => by rw [hat, hr]; omega, fun c _ => by rw [hr]; omega, fun c _ => by rw [hat, hr]⟩, hl, hat⟩
  · rw [hl] at hi ⊢
    unfold newK
    rw [h1, if_pos hi, List.length_replicate]
  · rw [hl] at hi hj ⊢
    unfold newK
    rw [h1, if_pos hi, h1, if_pos hj, List.length_replicate]
theorem lv_init {n : Nat} {kn : L3} {dn : List Int} : Lv n kn dn 0 0 0 := ⟨fun c b _ _ h => by omega, fun d b c _ _ _ h => by omega⟩
theorem lv_row {n : Nat} {kn : L3} {dn : List Int} {r p : Nat} (L : Lv n kn dn r p n) : Lv n kn dn r (p + 1) 0 := ⟨fun c b hc hb h => L.a c b hc hb (by omega), fun d b c hd hb hc h => L.b d b c hd hb hc (by omega)⟩
theorem lv_round {n : Nat} {kn : L3} {dn : List Int} {r : Nat} (L : Lv n kn dn r n 0) : Lv n kn dn (r + 1) 0 0 := ⟨fun c b hc hb _ => L.a c b hc hb (by omega), fun d b c hd hb hc h => L.b d b c hd hb hc (by omega)⟩
theorem lv_same {n : Nat} {kn : L3} {dn : List Int} {r p : Nat} (A : AInv n kn dn) (L : Lv n kn dn r p p) : Lv n kn dn r p (p + 1) := by
  refine ⟨fun c b hc hb h => ?_, fun d b c hd hb hc h => ?_⟩
  · by_cases h1 : c = p ∧ b = p
    · obtain ⟨rfl, rfl⟩ := h1
      exact A.ok.e b (by rw [A.ln]; exact hb)
    · exact L.a c b hc hb (by omega)
  · by_cases h1 : r = 1 ∧ d = p ∧ b = p
    · obtain ⟨h0, rfl, rfl⟩ := h1
      exact L.a c b hc hb (by omega)
    · exact L.b d b c hd hb hc (by omega)
theorem lv_tell {n : Nat} {kn : L3} {dn : List Int} {r p q : Nat} (A : AInv n kn dn) (hp : p < n) (hq : q < n) (hne : p ≠ q) (L : Lv n kn dn r p q) : tE kn dn (p : Int) (q : Int) = 0 ∧ AInv n (tK kn dn (p : Int) (q : Int)) dn ∧ Lv n (tK kn dn (p : Int) (q : Int)) dn r p (q + 1) := by
  obtain ⟨ok, rfl⟩ := A
  obtain ⟨h0, _, hat⟩ := tell_at ok hp hq hne
  obtain ⟨ok', hl, hge, _⟩ := tell_ok ok (p : Int) (q : Int)
  have hv : ∀ a b c, a < kn.length → b < kn.length → c < kn.length → at3 (tK kn dn (p : Int) (q : Int)) a b c ≤ dn.getD c 0 := fun a b c ha hb hc => (ok'.v a b c (by omega) (by omega) (by omega)).2
  have keep : ∀ a b c, a < kn.length → b < kn.length → c < kn.length → at3 kn a b c = dn.getD c 0 → at3 (tK kn dn (p : Int) (q : Int)) a b c = dn.getD c 0 := fun a b c ha hb hc h => by
    have h1 := hge a b c ha hb hc
    have h2 := hv a b c ha hb hc
    omega
  refine ⟨h0, ⟨ok', hl⟩, fun c b hc hb h => ?_, fun d b c hd hb hc h => ?_⟩
  · by_cases h1 : c = p ∧ b = q
    · obtain ⟨rfl, rfl⟩ := h1
      have h2 := hv b b c hb hb hc
      have h3 : told kn c b b c ≥ at3 kn c c c := by unfold told; rw [if_pos rfl]; omega
      have h4 := hat b b c hb hb hc
      rw [if_pos rfl] at h4
      have h5 := ok.e c hc
      omega
    · exact keep b b c hb hb hc (L.a c b hc hb (by omega))
  · by_cases h1 : r = 1 ∧ d = p ∧ b = q
    · obtain ⟨hr, rfl, rfl⟩ := h1
      have h2 := hv b d c hb hd hc
      have h3 : told kn d b d c ≥ at3 kn d d c := by unfold told; rw [if_neg hne]; omega
      have h4 := hat b d c hb hd hc
      rw [if_pos rfl] at h4
      have h5 := L.a c d hc hd (by omega)
      omega
    · exact keep b d c hb hd hc (L.b d b c hd hb hc (by omega))
theorem AInv.td {n : Nat} {kn : L3} {dn : List Int} (A : AInv n kn dn) : TdOk (kn, dn, ()) := ⟨A.ok.n5, A.ok.sh⟩
theorem all_vc (n : Int) (l : List (List Int)) (k : List Dat → Prop) (hl : l.length ≤ maxLen) (hk : k [⟨.bool, true⟩]) : vcF ⟨Et, [(14, cFact), (18, cKnowsX), (19, cStableX)], glK, [], [(15, oNew), (16, oWriteX), (17, oTellX)]⟩ (anAll n l) (Try.f6.body.getD .skip) Try.f6.ntmps [(.tmp 4, .bool)] [⟨I, n⟩, ⟨.sl (.sl I), l⟩] k := by
  rw [vcAll]
  have hml : maxLen ≤ 9223372036854775807 := by decide
  simp only [dnOf_mk, and_true, true_and, eq_self, implies_true, Int.toNat_natCast, decide_true, Bool.not_true]
  refine ⟨fun h => absurd h (by decide), fun _ => ⟨fun hb => ?_, fun hb => ?_⟩⟩
  · have hr : 1 ≤ n ∧ n ≤ 5 := inB_iff.1 hb
    have hN : (n.toNat : Int) = n := by omega
    obtain ⟨nok, nln, -⟩ := new_ok hr
    refine ⟨fun h => absurd h (by decide), fun _ => ⟨⟨(0, newK n.toNat, List.replicate n.toNat 0), ⟨⟨Nat.zero_le _, Nat.zero_le _⟩, nok, nln⟩, rfl, rfl, rfl⟩, fun ⟨i, kn, dn⟩ ⟨hi, A⟩ => ?_⟩⟩
    simp only at hi A ⊢
    refine ⟨fun h3 => ⟨fun h4 => ?_, fun _ => ?_⟩, fun _ => ?_⟩
    · have h3 : i < l.length := by have := of_decide_eq_true h3; omega
      have h80 : i < 80 := by have := of_decide_eq_true h4; omega
      have stay : ∃ x : Nat × L3 × List Int, ((x.1 ≤ l.length ∧ x.1 ≤ 80) ∧ AInv n.toNat x.2.1 x.2.2) ∧ l.length - x.1 < l.length - i ∧ (i : Int) + 1 = (x.1 : Int) ∧ kn = x.2.1 ∧ dn = x.2.2 := ⟨(i + 1, kn, dn), ⟨⟨h3, h80⟩, A⟩, by simp only; omega, rfl, rfl, rfl⟩
      refine ⟨by omega, by omega, fun h5 => ⟨by omega, by omega, by omega, by have := of_decide_eq_true h5; omega, fun h6 => ?_, fun _ => ⟨inK_i64.2 (by omega), stay⟩⟩, fun _ => ⟨inK_i64.2 (by omega), stay⟩⟩
      obtain ⟨w1, w2, -⟩ := write_ok A.ok ((l.getD i []).getD (Int.toNat 0) 0)
      exact ⟨by omega, by omega, by omega, by have := of_decide_eq_true h5; omega, A.ok, inK_i64.2 (by omega), (i + 1, _, _), ⟨⟨h3, h80⟩, w1, by rw [w2]; exact A.ln⟩, by simp only; omega, rfl, rfl, rfl⟩
    all_goals
      refine ⟨⟨(0, kn), ⟨Nat.zero_le _, A, lv_init⟩, rfl, rfl⟩, fun ⟨r, k1⟩ ⟨hr3, A1, L1⟩ => ?_⟩
      simp only at hr3 A1 L1 ⊢
      refine ⟨fun h5 => ?_, fun h5 => ?_⟩
      · have h5 : r < 3 := by have := of_decide_eq_true h5; omega
        refine ⟨⟨(0, k1), ⟨by simp only; omega, A1, L1⟩, rfl, rfl⟩, fun ⟨p, k2⟩ ⟨hp, A2, L2⟩ => ?_⟩
        simp only at hp A2 L2 ⊢
        refine ⟨fun h6 => ?_, fun h6 => ?_⟩
        · have h6 := of_decide_eq_true h6
          have hpn : p < n.toNat := by omega
          refine ⟨⟨(0, k2), ⟨by simp only; omega, A2, L2⟩, rfl, rfl⟩, fun ⟨q, k3⟩ ⟨hq, A3, L3⟩ => ?_⟩
          simp only at hq A3 L3 ⊢
          refine ⟨fun h7 => ?_, fun h7 => ?_⟩
          · have h7 := of_decide_eq_true h7
            have hqn : q < n.toNat := by omega
            refine ⟨fun h8 => ?_, fun h8 => ?_⟩
            · have h8 : p ≠ q := by rintro rfl; simp at h8
              obtain ⟨t1, t2, t3⟩ := lv_tell A3 hpn hqn h8 L3
              rw [t1]
              exact ⟨A3.ok, fun h => absurd h (by decide), fun _ => ⟨inK_i64.2 (by omega), (q + 1, _), ⟨by simp only; omega, t2, t3⟩, by simp only; omega, rfl, rfl⟩⟩
            · have h8 : p = q := by
                have := of_decide_eq_true (show decide ((p : Int) = (q : Int)) = true by simpa using h8)
                omega
              subst h8
              exact ⟨inK_i64.2 (by omega), (p + 1, k3), ⟨by simp only; omega, A3, lv_same A3 L3⟩, by simp only; omega, rfl, rfl⟩
          · have h7 := of_decide_eq_false h7
            have hqn : q = n.toNat := by omega
            subst hqn
            exact ⟨inK_i64.2 (by omega), (p + 1, k3), ⟨by simp only; omega, A3, lv_row L3⟩, by simp only; omega, rfl, rfl⟩
        · have h6 := of_decide_eq_false h6
          have hpn : p = n.toNat := by omega
          subst hpn
          exact ⟨inK_i64.2 (by omega), (r + 1, k2), ⟨by simp only; omega, A2, lv_round L2⟩, by simp only; omega, rfl, rfl⟩
      · have h5 : r = 3 := by have := of_decide_eq_false h5; omega
        subst h5
        have td : ∃ s : L3 × List Int × Unit, some (k1, dn, ()) = some s ∧ TdOk s := ⟨_, rfl, A1.td⟩
        refine ⟨⟨0, by omega, rfl⟩, fun x hx => ⟨fun h6 => ⟨⟨0, by omega, rfl⟩, fun y hy => ⟨fun h7 => ?_, fun h7 => ?_⟩⟩, fun _ => hk⟩⟩
        · have h6 := of_decide_eq_true h6
          have h7 := of_decide_eq_true h7
          have hln := A1.ln
          have e1 := stab_all k1 x y (by omega) (by omega) (dn.getD y 0) (fun b hb => L1.b b x y (by omega) (by omega) (by omega) (by omega))
          have e2 := know_at k1 y y y (by omega) (by omega) (by omega)
          have e3 := A1.ok.e y (by omega)
          rw [e1, e2, e3]
          simp only [eq_self, decide_true, Bool.not_true]
          exact ⟨td, td, fun h => absurd h (by decide), fun _ => ⟨inK_i64.2 (by omega), y + 1, by omega, by omega, by omega⟩⟩
        · exact ⟨inK_i64.2 (by omega), x + 1, by have := of_decide_eq_true h6; omega, by have := of_decide_eq_true h6; omega, by omega⟩
  · have hn : ¬ (1 ≤ n ∧ n ≤ 5) := fun h => by rw [inB_iff.2 h] at hb; cases hb
    refine ⟨fun _ => ⟨fun _ => hk, fun h => ?_⟩, fun h => absurd h (by decide)⟩
    have h := of_decide_eq_false h
    rw [decide_eq_true (show (5 : Int) < n by omega)]
    exact hk
theorem fact_vc (k : List Dat → Prop) (hk : k [⟨.bool, true⟩]) : vcF ⟨Et, [(18, cKnowsX), (19, cStableX)], glK, [], [(15, oNew), (16, oWriteX), (17, oTellX)]⟩ [joinAll] (Try.f14.body.getD .skip) Try.f14.ntmps [(.tmp 0, .bool)] [] k := by
  rw [vcFact]
  obtain ⟨nok, -, -⟩ := new_ok (n := 2) (by decide)
  obtain ⟨wok, -, -⟩ := write_ok nok 0
  obtain ⟨tok, -, -⟩ := tell_ok wok 0 1
  have td : ∃ s : L3 × List Int × Unit, some (tK (wK (newK (Int.toNat 2)) (List.replicate (Int.toNat 2) 0) 0) (wD (newK (Int.toNat 2)) (List.replicate (Int.toNat 2) 0) 0) 0 1, wD (newK (Int.toNat 2)) (List.replicate (Int.toNat 2) 0) 0, ()) = some s ∧ TdOk s := ⟨_, rfl, tok.n5, tok.sh⟩
  have e1 : wE (newK (Int.toNat 2)) (List.replicate (Int.toNat 2) 0) 0 = 0 := by rw [wE_eq]; decide +kernel
  have e2 : tE (wK (newK (Int.toNat 2)) (List.replicate (Int.toNat 2) 0) 0) (wD (newK (Int.toNat 2)) (List.replicate (Int.toNat 2) 0) 0) 0 1 = 0 := by rw [tE_eq, wK_eq, wD_eq]; decide +kernel
  have e3 : knowX (tK (wK (newK (Int.toNat 2)) (List.replicate (Int.toNat 2) 0) 0) (wD (newK (Int.toNat 2)) (List.replicate (Int.toNat 2) 0) 0) 0 1) 1 1 0 = 1 := by rw [knowX_eq, tK_eq, wK_eq, wD_eq]; decide +kernel
  have e4 : knowX (tK (wK (newK (Int.toNat 2)) (List.replicate (Int.toNat 2) 0) 0) (wD (newK (Int.toNat 2)) (List.replicate (Int.toNat 2) 0) 0) 0 1) 0 1 0 = 0 := by rw [knowX_eq, tK_eq, wK_eq, wD_eq]; decide +kernel
  have e5 : stabX (tK (wK (newK (Int.toNat 2)) (List.replicate (Int.toNat 2) 0) 0) (wD (newK (Int.toNat 2)) (List.replicate (Int.toNat 2) 0) 0) 0 1) 1 0 = 1 := by rw [stabX_eq, tK_eq, wK_eq, wD_eq]; decide +kernel
  have e6 : stabX (tK (wK (newK (Int.toNat 2)) (List.replicate (Int.toNat 2) 0) 0) (wD (newK (Int.toNat 2)) (List.replicate (Int.toNat 2) 0) 0) 0 1) 0 0 = 0 := by rw [stabX_eq, tK_eq, wK_eq, wD_eq]; decide +kernel
  rw [e1, e2, e3, e4, e5, e6]
  exact ⟨fun _ => ⟨fun h => absurd h (by decide), fun _ => ⟨nok, wok, fun _ => ⟨fun _ => ⟨td, fun _ => ⟨td, fun _ => ⟨td, fun _ => ⟨td, hk⟩, fun h => absurd h (by decide)⟩, fun h => absurd h (by decide)⟩, fun h => absurd h (by decide)⟩, fun h => absurd h (by decide)⟩, fun h => absurd h (by decide)⟩⟩, fun h => absurd h (by decide)⟩
theorem xok : CxOk Try.prog ⟨Et, [(18, cKnowsX), (19, cStableX)], glK, [], [(15, oNew), (16, oWriteX), (17, oTellX)]⟩ :=
  CxOk.mk' Et_ok rfl mixed (gl := glK) (GOk.cons okKnowsX Try.func18 rfl rfl (GOk.cons okStableX Try.func19 rfl rfl GOk.nil)) (GoOk.cons okNew Try.func15 rfl rfl (GoOk.cons okWriteX Try.func16 rfl rfl (GoOk.cons okTellX Try.func17 rfl rfl GoOk.nil))) noIt
theorem okFact : PlainOk Try.prog glK 14 cFact := by
  refine plain_of xok Try.func14 (c := Try.f14.body.getD .skip) (rvs := [(.tmp 0, .bool)]) (by kernel_rfl) (by kernel_rfl) (by kernel_rfl) ?_
  intro ds k ⟨hp, hk⟩ hwf
  obtain ⟨rfl, -⟩ := dest0 hp
  exact ⟨_, fact_vc k hk⟩
theorem xok2 : CxOk Try.prog ⟨Et, [(14, cFact), (18, cKnowsX), (19, cStableX)], glK, [], [(15, oNew), (16, oWriteX), (17, oTellX)]⟩ :=
  CxOk.mk' Et_ok rfl mixed (gl := glK) (GOk.cons okFact Try.func14 rfl rfl (GOk.cons okKnowsX Try.func18 rfl rfl (GOk.cons okStableX Try.func19 rfl rfl GOk.nil))) (GoOk.cons okNew Try.func15 rfl rfl (GoOk.cons okWriteX Try.func16 rfl rfl (GoOk.cons okTellX Try.func17 rfl rfl GoOk.nil))) noIt
theorem okAll : PlainOk Try.prog glK 6 (cdet [I, .sl (.sl I)] (fun (_ : Int) (_ : List (List Int)) => True) (fun _ _ => [⟨.bool, true⟩])) := by
  refine plain_of xok2 Try.func6 (c := Try.f6.body.getD .skip) (rvs := [(.tmp 4, .bool)]) (by kernel_rfl) (by kernel_rfl) (by kernel_rfl) ?_
  intro ds k ⟨hp, hk⟩ hwf
  obtain ⟨n, l, rfl, -⟩ := dest2 hp
  exact ⟨_, all_vc n l k (wf2 hwf).2.1 hk⟩
end Go.Proofs.Ytjgdpblaghhfhaa.T

/- Tables of who knows what who knows: what one knows of another one is so. -/
namespace Go.Proofs.Ytjgdpblaghhfhaa.T
open Go.Vc
theorem knOf_mk (tm : List SV) (o0 o3 o4 : Ob) (e e2 : TypeId) (e3 e4 : TypeId) (kn : L3) (dn : List Int) (gs : List (GK × SV)) (k : L3 → List Int → Prop) : knOf ⟨tm, [o0, .trow e (.sl e3 (.sl e4 (.d (.int .i64)))) kn, .row e2 (.int .i64) dn, o3, o4], gs⟩ k = k kn dn := rfl
theorem flat_at {N a b c : Nat} (hb : b < N) (hc : c < N) (k : L3) : flatK k N ((a * N + b) * N + c) = at3 k a b c := by
  have hN : 0 < N := by omega
  have e1 : ((a * N + b) * N + c) / N = a * N + b := by rw [Nat.add_comm, Nat.add_mul_div_right _ _ hN, Nat.div_eq_of_lt hc, Nat.zero_add]
  have e2 : ((a * N + b) * N + c) % N = c := by rw [Nat.add_comm, Nat.add_mul_mod_self_right, Nat.mod_eq_of_lt hc]
  have e3 : (a * N + b) / N = a := by rw [Nat.add_comm, Nat.add_mul_div_right _ _ hN, Nat.div_eq_of_lt hb, Nat.zero_add]
  have e4 : (a * N + b) % N = b := by rw [Nat.add_comm, Nat.add_mul_mod_self_right, Nat.mod_eq_of_lt hb]
  unfold flatK
  rw [e1, e2, e3, e4]
theorem at_lt {N a b c : Nat} (ha : a < N) (hb : b < N) (hc : c < N) : (a * N + b) * N + c < N * N * N := by
  have h1 : (a + 1) * N ≤ N * N := Nat.mul_le_mul_right N ha
  rw [Nat.add_mul] at h1
  have h2 : (a * N + b + 1) * N ≤ N * N * N := Nat.mul_le_mul_right N (by omega)
  rw [Nat.add_mul] at h2
  omega
theorem cube_le {N : Nat} (h : N ≤ 5) : N * N ≤ 25 ∧ N * N * N ≤ 125 := ⟨Nat.mul_le_mul h h, Nat.mul_le_mul (Nat.mul_le_mul h h) h⟩
theorem parts_lt {N m : Nat} (h : m < N * N * N) : m / N / N < N ∧ m / N % N < N ∧ m % N < N := by
  have hN : 0 < N := by
    rcases Nat.eq_zero_or_pos N with h0 | h0
    · subst h0; simp at h
    · exact h0
  exact ⟨Nat.div_lt_of_lt_mul (Nat.div_lt_of_lt_mul (by rw [Nat.mul_comm]; rw [Nat.mul_assoc] at h; rw [Nat.mul_assoc] ; exact h)), Nat.mod_lt _ hN, Nat.mod_lt _ hN⟩
theorem SInv.grow {N : Nat} {kn kn' : L3} {dn dn' was : List Int} (S : SInv N kn dn was) (ok : TbOk kn' dn') (hl : kn'.length = kn.length) (hs : Snd kn kn.length → Snd kn' kn.length) (hge : ∀ a b c, a < kn.length → b < kn.length → c < kn.length → at3 kn a b c ≤ at3 kn' a b c) : SInv N kn' dn' was := by
  have hN := S.ln
  refine ⟨ok, by rw [hl, hN], by rw [← hN]; exact hs (by rw [hN]; exact S.s), S.wl, fun m hm => ?_⟩
  obtain ⟨h1, h2, h3⟩ := parts_lt hm
  have := S.w m hm
  have := hge (m / N / N) (m / N % N) (m % N) (by omega) (by omega) (by omega)
  unfold flatK at *
  omega
theorem SInv.note {N : Nat} {kn : L3} {dn was : List Int} (S : SInv N kn dn was) {a b c : Nat} (ha : a < N) (hb : b < N) (hc : c < N) : SInv N kn dn (was.set ((a * N + b) * N + c) (at3 kn a b c)) := by
  refine ⟨S.ok, S.ln, S.s, by rw [List.length_set]; exact S.wl, fun m hm => ?_⟩
  rw [getD_setI _ _ _ _ (by rw [S.wl]; exact at_lt ha hb hc)]
  split
  · rename_i e; subst e; rw [flat_at hb hc]; exact Int.le_refl _
  · exact S.w m hm
theorem SInv.td {N : Nat} {kn : L3} {dn was : List Int} (S : SInv N kn dn was) : TdOk (kn, dn, ()) := ⟨S.ok.n5, S.ok.sh⟩
theorem sound_vc (n : Int) (l : List (List Int)) (k : List Dat → Prop) (hl : l.length ≤ maxLen) (hk : k [⟨.bool, true⟩]) : vcF ⟨Et, [(14, cFact), (18, cKnowsX), (19, cStableX)], glK, [], [(15, oNew), (16, oWriteX), (17, oTellX)]⟩ (anSound n l) (Try.f5.body.getD .skip) Try.f5.ntmps [(.tmp 4, .bool)] [⟨I, n⟩, ⟨.sl (.sl I), l⟩] k := by
  rw [vcSound]
  have hml : maxLen ≤ 9223372036854775807 := by decide
  simp only [knOf_mk, and_true, true_and, eq_self, implies_true, Int.toNat_natCast, decide_true, Bool.not_true]
  refine ⟨fun h => absurd h (by decide), fun _ => ⟨fun hb => ?_, fun hb => ?_⟩⟩
  · have hr : 1 ≤ n ∧ n ≤ 5 := inB_iff.1 hb
    obtain ⟨nok, nln, nat⟩ := new_ok hr
    obtain ⟨N, rfl⟩ := Int.eq_ofNat_of_zero_le (show 0 ≤ n by omega)
    simp only [Int.toNat_natCast] at nok nln nat ⊢
    have hN5 : N ≤ 5 := by omega
    obtain ⟨q2, q3⟩ := cube_le hN5
    have c2 : (N : Int) * (N : Int) = ((N * N : Nat) : Int) := (Int.natCast_mul N N).symm
    have c3 : (N : Int) * (N : Int) * (N : Int) = ((N * N * N : Nat) : Int) := by rw [c2]; exact (Int.natCast_mul (N * N) N).symm
    have c3t : ((N : Int) * (N : Int) * (N : Int)).toNat = N * N * N := by rw [c3, Int.toNat_natCast]
    have hrep : ∀ m i : Nat, (List.replicate m (0 : Int)).getD i 0 = 0 := by
      intro m i
      rw [List.getD_eq_getElem?_getD, List.getElem?_replicate]
      split <;> rfl
    have S0 : SInv N (newK N) (List.replicate N 0) (List.replicate (N * N * N) 0) := ⟨nok, nln, fun a b c _ _ _ => by rw [nat, nat]; exact Int.le_refl _, List.length_replicate, fun m _ => by rw [hrep]; unfold flatK; rw [nat]; exact Int.le_refl _⟩
    refine ⟨fun h => absurd h (by decide), fun _ => ⟨by omega, by omega, by omega, inK_i64.2 (by rw [c2]; omega), inK_i64.2 (by rw [c3]; omega), by rw [c3]; omega, by rw [c3]; omega, by rw [c3]; omega, ⟨(0, newK N, List.replicate N 0, List.replicate (N * N * N) 0), ⟨⟨Nat.zero_le _, Nat.zero_le _⟩, S0⟩, rfl, rfl, rfl, rfl, by rw [c3t]⟩, fun ⟨i, kn, dn, was⟩ ⟨hi, S⟩ => ?_⟩⟩
    simp only at hi S ⊢
    refine ⟨fun h3 => ⟨fun h4 => ?_, fun _ => hk⟩, fun _ => hk⟩
    have h3 : i < l.length := by have := of_decide_eq_true h3; omega
    have h80 : i < 80 := by have := of_decide_eq_true h4; omega
    refine ⟨by omega, by omega, fun _ => ⟨inK_i64.2 (by omega), (i + 1, kn, dn, was), ⟨⟨h3, h80⟩, S⟩, by simp only; omega, rfl, rfl, rfl, rfl, rfl⟩, fun h5 => ?_⟩
    have h5 := of_decide_eq_false h5
    have hn' : kn.length = N := S.ln
    refine ⟨⟨by omega, by omega, by omega, by omega, fun _ => ?_, fun _ => ?_⟩, fun ⟨kn1, dn1⟩ S1 => ?_⟩
    · obtain ⟨w1, w2, w3, w4, w5, w6⟩ := write_ok S.ok ((l.getD i []).getD (Int.toNat 0) 0)
      have Sw := S.grow w1 w2 w4 w3
      refine ⟨by omega, by omega, by omega, by omega, S.ok, fun h7 => ?_, fun h7 => ?_⟩
      · obtain ⟨p1, p2, p3⟩ := w5 (of_decide_eq_true h7)
        have hdl := S.ok.dl
        have hd := S.ok.d ((l.getD i []).getD (Int.toNat 0) 0).toNat (by omega)
        have hv := S.ok.v 0 0 ((l.getD i []).getD (Int.toNat 0) 0).toNat (by omega) (by omega) (by omega)
        refine ⟨fun h => absurd (of_decide_eq_true h) (by omega), fun _ => ⟨fun h => absurd (of_decide_eq_true h) (by omega), fun _ => ⟨by omega, by omega, inK_i64.2 (by omega), by omega, by omega, (_, _), Sw, rfl, rfl, p3.symm⟩⟩⟩
      · obtain ⟨p1, p2⟩ := w6 (of_decide_eq_false h7)
        exact ⟨(_, _), Sw, rfl, rfl, p2.symm⟩
    · obtain ⟨t1, t2, t3, t4⟩ := tell_ok S.ok ((l.getD i []).getD (Int.toNat 0) 0) ((l.getD i []).getD (Int.toNat 1) 0)
      exact ⟨⟨by omega, by omega, by omega, by omega, by omega, by omega, by omega, by omega⟩, S.ok, (_, dn), S.grow t1 t2 t4 t3, rfl, rfl, rfl⟩
    · simp only at S1 ⊢
      have hn1 : kn1.length = N := S1.ln
      have hdl := S1.ok.dl
      have td : ∃ s : L3 × List Int × Unit, some (kn1, dn1, ()) = some s ∧ TdOk s := ⟨_, rfl, S1.td⟩
      refine ⟨⟨(0, was), ⟨by simp only; omega, S1⟩, rfl, rfl⟩, fun ⟨a, w1⟩ ⟨ha, Sa⟩ => ?_⟩
      simp only at ha Sa ⊢
      refine ⟨fun h6 => ?_, fun h6 => ?_⟩
      · have h6 : a < N := by have := of_decide_eq_true h6; omega
        refine ⟨⟨(0, w1), ⟨by simp only; omega, Sa⟩, rfl, rfl⟩, fun ⟨b, w2⟩ ⟨hb, Sb⟩ => ?_⟩
        simp only at hb Sb ⊢
        refine ⟨fun h7 => ?_, fun h7 => ?_⟩
        · have h7 : b < N := by have := of_decide_eq_true h7; omega
          refine ⟨⟨(0, w2), ⟨by simp only; omega, Sb⟩, rfl, rfl⟩, fun ⟨c, w3⟩ ⟨hc, Sc⟩ => ?_⟩
          simp only at hc Sc ⊢
          refine ⟨fun h8 => ?_, fun h8 => ?_⟩
          · have h8 : c < N := by have := of_decide_eq_true h8; omega
            have x1 := know_at kn1 b b c (by omega) (by omega) (by omega)
            have x2 := know_at kn1 a b c (by omega) (by omega) (by omega)
            have x3 := stab_le kn1 a b c (by omega) (by omega) (by omega)
            have x4 := S1.s a b c h6 h7 h8
            have x5 := S1.ok.v a b c (by omega) (by omega) (by omega)
            have hat := at_lt h6 h7 h8
            have x6 := Sc.w _ hat
            rw [flat_at h7 h8] at x6
            have m1 : (a : Int) * (N : Int) = ((a * N : Nat) : Int) := (Int.natCast_mul a N).symm
            have m2 : ((a : Int) * (N : Int) + (b : Int)) * (N : Int) + (c : Int) = (((a * N + b) * N + c : Nat) : Int) := by
              rw [m1, ← Int.natCast_add, ← Int.natCast_mul, ← Int.natCast_add]
            have m3 : ((a : Int) * (N : Int) + (b : Int)) * (N : Int) = (((a * N + b) * N : Nat) : Int) := by
              rw [m1, ← Int.natCast_add, ← Int.natCast_mul]
            have hab : a * N + b < N * N := by
              have h1 : (a + 1) * N ≤ N * N := Nat.mul_le_mul_right N h6
              rw [Nat.add_mul] at h1
              omega
            have hwl := Sc.wl
            simp only [x1, x2, m2, Int.toNat_natCast]
            refine ⟨td, inK_i64.2 (by rw [m1]; omega), inK_i64.2 (by rw [m1]; omega), inK_i64.2 (by rw [m3]; omega), inK_i64.2 (by omega), td, fun h => absurd (of_decide_eq_true h) (by omega), fun _ => ⟨by omega, by omega, fun h => absurd (of_decide_eq_true h) (by omega), fun _ => ⟨by omega, by omega, fun h => absurd (of_decide_eq_true h) (by omega), fun _ => ⟨td, td, fun h => absurd (of_decide_eq_true h) (by omega), fun _ => ⟨by omega, by omega, inK_i64.2 (by omega), (c + 1, _), ⟨by simp only; omega, Sc.note h6 h7 h8⟩, by simp only; omega, rfl, rfl⟩⟩⟩⟩⟩
          · have h8 := of_decide_eq_false h8
            exact ⟨inK_i64.2 (by omega), (b + 1, w3), ⟨by simp only; omega, Sc⟩, by simp only; omega, rfl, rfl⟩
        · exact ⟨inK_i64.2 (by omega), (a + 1, w2), ⟨by simp only; omega, Sb⟩, by simp only; omega, rfl, rfl⟩
      · exact ⟨inK_i64.2 (by omega), (i + 1, kn1, dn1, w1), ⟨⟨h3, h80⟩, Sa⟩, by simp only; omega, rfl, rfl, rfl, rfl, rfl⟩
  · have hn : ¬ (1 ≤ n ∧ n ≤ 5) := fun h => by rw [inB_iff.2 h] at hb; cases hb
    refine ⟨fun _ => ⟨fun _ => hk, fun h => ?_⟩, fun h => absurd h (by decide)⟩
    have h := of_decide_eq_false h
    rw [decide_eq_true (show (5 : Int) < n by omega)]
    exact hk
theorem okSound : PlainOk Try.prog glK 5 (cdet [I, .sl (.sl I)] (fun (_ : Int) (_ : List (List Int)) => True) (fun _ _ => [⟨.bool, true⟩])) := by
  refine plain_of xok2 Try.func5 (c := Try.f5.body.getD .skip) (rvs := [(.tmp 4, .bool)]) (by kernel_rfl) (by kernel_rfl) (by kernel_rfl) ?_
  intro ds k ⟨hp, hk⟩ hwf
  obtain ⟨n, l, rfl, -⟩ := dest2 hp
  exact ⟨_, sound_vc n l k (wf2 hwf).2.1 hk⟩
end Go.Proofs.Ytjgdpblaghhfhaa.T
