/- Clocks that count: plain clocks and vectors keep their contracts. -/
import Derived.Test.YtgbpjjinhjikeaaOk9
import Derived.Test.YtgbpjjinhjikeaaV10
import Derived.Test.YtgbpjjinhjikeaaOk5
import Derived.Test.YtgbpjjinhjikeaaM3
namespace Go.Proofs.Ytgbpjjinhjikeaa
open Go.Vc

theorem plst_len (l : List Ev) : ∀ i, (plst l i).1.length = i ∧ (plst l i).2.length = 5
  | 0 => ⟨rfl, rfl⟩
  | i + 1 => by
    obtain ⟨h1, h2⟩ := plst_len l i
    simp only [plst, List.length_append, List.length_cons, List.length_nil, List.length_set]
    exact ⟨by omega, h2⟩
theorem plst_bd (l : List Ev) : ∀ i j, (0 ≤ (plst l i).1.getD j 0 ∧ (plst l i).1.getD j 0 ≤ (i : Int)) ∧ (0 ≤ (plst l i).2.getD j 0 ∧ (plst l i).2.getD j 0 ≤ (i : Int))
  | 0, j => by
    refine ⟨⟨by simp [plst], by simp [plst]⟩, ?_⟩
    simp only [plst, List.getD_eq_getElem?_getD, List.getElem?_replicate]
    split <;> simp
  | i + 1, j => by
    have ih := plst_bd l i
    have h1 := ih (l.getD i (0, 0, ())).1.toNat
    have h2 := ih (l.getD i (0, 0, ())).2.1.toNat
    have h3 := ih j
    simp only [plst, getD_app, getD_set']
    refine ⟨?_, ?_⟩
    · split
      · split <;> omega
      · omega
    · split
      · split <;> omega
      · omega

theorem plain_vc (t : Tr) (k : List Dat → Prop) (hk : k [⟨.sl I, plain t⟩, ⟨tErr, chk t⟩]) : vcF ⟨Ev5, [(26, cCheck)]⟩ (anPlain t) (Try.f21.body.getD .skip) Try.f21.ntmps [(.tmp 2, .sl I), (.tmp 3, tErr)] [⟨tTr, t⟩] k := by
  rw [vcPlain]
  simp only [decide_eq_true_eq, decide_eq_false_iff_not, and_true, true_and, Bool.not_eq_true', Bool.not_eq_false', Int.toNat_natCast, eq_self, inK_i64, List.replicate, List.set_cons_zero, List.length_cons, List.length_nil]
  refine ⟨fun h => ?_, fun h => ⟨⟨0, Nat.zero_le _, rfl, rfl, rfl⟩, fun x hx => ⟨fun hlt => ?_, fun hge => ?_⟩⟩⟩
  · have : plain t = [] := by unfold plain; rw [if_neg h]
    rw [← this]; exact hk
  · have g := good_of h
    have hlen := g.len
    have hpr := g.procs
    have hxl : x < t.2.1.length := by omega
    obtain ⟨p0, p1, f0, f1, _⟩ := g.ev x hxl
    obtain ⟨l1, l2⟩ := plst_len t.2.1 x
    have b1 := plst_bd t.2.1 x (t.2.1.getD x (0, 0, ())).1.toNat
    have b2 := plst_bd t.2.1 x (t.2.1.getD x (0, 0, ())).2.1.toNat
    refine ⟨by omega, hlt, p0, by omega, fun hf => ?_, fun hf => ?_⟩
    · refine ⟨hf, by omega, by omega, by omega, by omega, p0, by omega, by omega, x + 1, by omega, by omega, by omega, ?_, ?_⟩
      · simp only [plst, if_pos hf]
      · simp only [plst, if_pos hf]; rfl
    · refine ⟨by omega, by omega, by omega, p0, by omega, by omega, x + 1, by omega, by omega, by omega, ?_, ?_⟩
      · simp only [plst, if_neg hf]
      · simp only [plst, if_neg hf]; rfl
  · have hy2 : x = t.2.1.length := by omega
    subst hy2
    have : plain t = (plst t.2.1 t.2.1.length).1 := by unfold plain; rw [if_pos h]
    rw [← this]
    rw [h] at hk
    exact hk

theorem okPlain : PlainOk Try.prog 21 cPlain := by
  refine plain_of (CxOk.mk' Ev5_ok rfl mixed (GOk.cons okCheck Try.func26 (by kernel_rfl) (by kernel_rfl) GOk.nil)) Try.func21 (c := Try.f21.body.getD .skip) (rvs := [(.tmp 2, .sl I), (.tmp 3, tErr)]) (by kernel_rfl) (by kernel_rfl) (by kernel_rfl) ?_
  intro ds k ⟨hp, hk⟩ hwf
  obtain ⟨t, rfl, -⟩ := dest1 hp
  exact ⟨anPlain t, plain_vc t k hk⟩

theorem vst_len (l : List Ev) : ∀ i, (vst l i).1.length = i ∧ (vst l i).2.length = 5
  | 0 => ⟨rfl, rfl⟩
  | i + 1 => by
    obtain ⟨h1, h2⟩ := vst_len l i
    simp only [vst, List.length_append, List.length_cons, List.length_nil, List.length_set]
    exact ⟨by omega, h2⟩
def Vok (n : Nat) (v : List Int) : Prop := v.length = 5 ∧ ∀ q, 0 ≤ v.getD q 0 ∧ v.getD q 0 ≤ (n : Int)
theorem vjoin_len (v w : List Int) (p : Nat) : (vjoin v w p).length = 5 := by simp [vjoin]
theorem vjoin_at (v w : List Int) (p q : Nat) : (vjoin v w p).getD q 0 = if q < 5 then (if q < p then max (v.getD q 0) (w.getD q 0) else v.getD q 0) else 0 := by
  unfold vjoin
  rw [List.getD_eq_getElem?_getD, List.getElem?_map]
  by_cases h : q < 5
  · rw [if_pos h, List.getElem?_range h]; rfl
  · rw [if_neg h, List.getElem?_eq_none (by simp; omega)]; rfl
theorem list_ext {v w : List Int} {n : Nat} (hv : v.length = n) (hw : w.length = n) (h : ∀ q, q < n → v.getD q 0 = w.getD q 0) : v = w := by
  apply List.ext_getElem (by omega)
  intro i h1 h2
  have := h i (by omega)
  rw [List.getD_eq_getElem?_getD, List.getD_eq_getElem?_getD, List.getElem?_eq_getElem h1, List.getElem?_eq_getElem h2] at this
  exact this
theorem vjoin_zero {v w : List Int} (hv : v.length = 5) : vjoin v w 0 = v := by
  refine list_ext (vjoin_len v w 0) hv fun q hq => ?_
  rw [vjoin_at, if_pos hq, if_neg (by omega)]
theorem vjoin_step {v w : List Int} {p : Nat} (hp : p < 5) : (vjoin v w p).set p (max ((vjoin v w p).getD p 0) (w.getD p 0)) = vjoin v w (p + 1) := by
  refine list_ext (by rw [List.length_set, vjoin_len]) (vjoin_len v w (p + 1)) fun q hq => ?_
  rw [getD_set', vjoin_len, vjoin_at v w (p + 1) q, vjoin_at v w p p, vjoin_at v w p q, if_pos hp, if_pos hq, if_pos hq, if_neg (Nat.lt_irrefl p)]
  by_cases h : p = q
  · subst h
    rw [if_pos ⟨rfl, hp⟩, if_pos (by omega)]
  · rw [if_neg (fun e => h e.1)]
    by_cases h2 : q < p
    · rw [if_pos h2, if_pos (by omega)]
    · rw [if_neg h2, if_neg (by omega)]
theorem vjoin_ok {n : Nat} {v w : List Int} (hv : Vok n v) (hw : Vok n w) (p : Nat) : Vok n (vjoin v w p) := by
  refine ⟨vjoin_len v w p, fun q => ?_⟩
  rw [vjoin_at]
  have h1 := hv.2 q
  have h2 := hw.2 q
  split
  · split <;> omega
  · omega
theorem vmore_ok {n : Nat} {v : List Int} (hv : Vok n v) (p : Nat) : Vok (n + 1) (vmore v p) := by
  refine ⟨by unfold vmore; rw [List.length_set]; exact hv.1, fun q => ?_⟩
  unfold vmore
  rw [getD_set']
  have h1 := hv.2 q
  have h2 := hv.2 p
  split <;> omega
theorem Vok.mono {n : Nat} {v : List Int} (hv : Vok n v) : Vok (n + 1) v := ⟨hv.1, fun q => by have := hv.2 q; omega⟩
theorem getD_any {α : Type} {l : List α} {i : Nat} {a b : α} (h : i < l.length) : l.getD i a = l.getD i b := by
  rw [List.getD_eq_getElem?_getD, List.getD_eq_getElem?_getD, List.getElem?_eq_getElem h]; rfl
/-- the vector of event i -/
def vec (l : List Ev) (i : Nat) : List Int := (vst l (i + 1)).1.getD i []
def vpre (l : List Ev) (i : Nat) : List Int :=
  if 0 ≤ frm l i then vjoin ((vst l i).2.getD (prc l i) []) ((vst l i).1.getD (frm l i).toNat []) 5 else (vst l i).2.getD (prc l i) []
theorem vst_succ (l : List Ev) (i : Nat) : vst l (i + 1) = ((vst l i).1 ++ [vmore (vpre l i) (prc l i)], (vst l i).2.set (prc l i) (vmore (vpre l i) (prc l i))) := rfl
theorem vec_eq (l : List Ev) (i : Nat) : vec l i = vmore (vpre l i) (prc l i) := by
  unfold vec
  rw [vst_succ]
  simp only [getD_app, (vst_len l i).1, if_true]
theorem vst_ok (l : List Ev) (hp : ∀ i, i < l.length → prc l i < 5) (hf : ∀ i, i < l.length → frm l i < (i : Int)) : ∀ m, m ≤ l.length →
    (∀ i, i < m → Vok m ((vst l m).1.getD i [])) ∧ (∀ p, p < 5 → Vok m ((vst l m).2.getD p []))
  | 0, _ => by
    refine ⟨fun i hi => absurd hi (Nat.not_lt_zero _), fun p hp => ?_⟩
    have : (vst l 0).2.getD p [] = List.replicate 5 (0 : Int) := by
      show (List.replicate 5 (List.replicate 5 (0 : Int))).getD p [] = _
      rw [List.getD_eq_getElem?_getD, List.getElem?_replicate, if_pos hp]; rfl
    rw [this]
    refine ⟨rfl, fun q => ?_⟩
    rw [List.getD_eq_getElem?_getD, List.getElem?_replicate]
    split <;> simp
  | m + 1, hm => by
    obtain ⟨h1, h2⟩ := vst_ok l hp hf m (by omega)
    obtain ⟨l1, l2⟩ := vst_len l m
    have hpm := hp m (by omega)
    have hfm := hf m (by omega)
    have hpre : Vok m (vpre l m) := by
      unfold vpre
      split
      · exact vjoin_ok (h2 _ hpm) (h1 _ (by omega)) 5
      · exact h2 _ hpm
    have hmo := vmore_ok hpre (prc l m)
    rw [vst_succ]
    refine ⟨fun i hi => ?_, fun p hp5 => ?_⟩
    · simp only [getD_app, l1]
      split
      · exact hmo
      · exact (h1 i (by omega)).mono
    · simp only [getD_set']
      split
      · exact hmo
      · exact (h2 p hp5).mono

theorem vecs_vc (t : Tr) (k : List Dat → Prop) (hk : k [⟨.sl (.sl I), vecs t⟩, ⟨tErr, chk t⟩]) : vcF ⟨Ev5, [(26, cCheck), (32, cClone)]⟩ (anVecs t) (Try.f22.body.getD .skip) Try.f22.ntmps [(.tmp 2, .sl (.sl I)), (.tmp 3, tErr)] [⟨tTr, t⟩] k := by
  rw [vcVecs]
  simp only [decide_eq_true_eq, decide_eq_false_iff_not, and_true, true_and, Bool.not_eq_true', Bool.not_eq_false', Int.toNat_natCast, eq_self, inK_i64, List.replicate, List.set_cons_zero, List.length_cons, List.length_nil, List.length_map, Int.toNat_zero, List.drop_zero]
  refine ⟨fun h => ?_, fun h => ⟨⟨0, Nat.zero_le _, rfl, rfl, rfl, rfl⟩, fun x hx => ⟨fun hlt => ?_, fun hge => ?_⟩⟩⟩
  · have : vecs t = [] := by unfold vecs; rw [if_neg h]
    rw [← this]; exact hk
  · have g := good_of h
    have hlen := g.len
    have hpr := g.procs
    have hxl : x < t.2.1.length := by omega
    have he := g.ev x hxl
    have hpp := good_prc g x hxl
    have hff := good_frm g x hxl
    obtain ⟨l1, l2⟩ := vst_len t.2.1 x
    obtain ⟨o1, o2⟩ := vst_ok t.2.1 (good_prc g) (good_frm g) x (by omega)
    have hsuc := vst_succ t.2.1 x
    have e1 : (t.2.1.getD x (0, 0, ())).1.toNat = prc t.2.1 x := rfl
    have e2 : (t.2.1.getD x (0, 0, ())).2.1 = frm t.2.1 x := rfl
    have e3 : (t.2.1.getD x (0, 0, ())).1 = (prc t.2.1 x : Int) := by unfold prc; omega
    simp only [e1, e2] at he ⊢
    simp only [e3] at he ⊢
    have d1 : ∀ a, (vst t.2.1 x).2.getD (prc t.2.1 x) a = (vst t.2.1 x).2.getD (prc t.2.1 x) [] := fun a => getD_any (by omega)
    have d2 : ∀ a, 0 ≤ frm t.2.1 x → (vst t.2.1 x).1.getD (frm t.2.1 x).toNat a = (vst t.2.1 x).1.getD (frm t.2.1 x).toNat [] := fun a h0 => getD_any (by omega)
    have fin : ∀ w, w = vpre t.2.1 x → (vst t.2.1 x).2.set (prc t.2.1 x) (w.set (prc t.2.1 x) (w.getD (prc t.2.1 x) 0 + 1)) = (vst t.2.1 (x + 1)).2 ∧ (vst t.2.1 x).1.append [w.set (prc t.2.1 x) (w.getD (prc t.2.1 x) 0 + 1)] = (vst t.2.1 (x + 1)).1 ∧
        ((vst t.2.1 x).1.map fun v => v.take t.1.toNat).append [(w.set (prc t.2.1 x) (w.getD (prc t.2.1 x) 0 + 1)).take t.1.toNat] = (vst t.2.1 (x + 1)).1.map fun v => v.take t.1.toNat := by
      rintro w rfl
      rw [hsuc]
      refine ⟨rfl, rfl, ?_⟩
      rw [List.map_append]
      rfl
    have hpre : Vok x (vpre t.2.1 x) := by
      unfold vpre
      split
      · exact vjoin_ok (o2 _ hpp) (o1 _ (by omega)) 5
      · exact o2 _ hpp
    have hvl := (o2 _ hpp).1
    have hb := hpre.2 (prc t.2.1 x)
    simp only [d1, Int.toNat_natCast]
    refine ⟨by omega, hlt, by omega, by omega, fun hf => ?_, fun hf => ?_⟩
    · simp only [d2 _ hf]
      refine ⟨hf, by omega, ⟨0, by omega, by omega, ?_⟩, fun y hy => ⟨fun hy5 => ?_, fun hy5 => ?_⟩⟩
      · exact (vjoin_zero hvl).symm
      · exact ⟨by omega, by omega, by omega, by omega, by omega, by omega, by omega, y + 1, by omega, by omega, by omega, vjoin_step (by omega)⟩
      · have hy2 : y = 5 := by omega
        subst hy2
        have hw : vjoin ((vst t.2.1 x).2.getD (prc t.2.1 x) []) ((vst t.2.1 x).1.getD (frm t.2.1 x).toNat []) 5 = vpre t.2.1 x := by unfold vpre; rw [if_pos hf]
        simp only [hw]
        obtain ⟨f1, f2, f3⟩ := fin _ rfl
        have hle : ∀ w : List Int, w.length = 5 → (w.take t.1.toNat).length ≤ 1000000000 := fun w hw => by rw [List.length_take]; omega
        exact ⟨by omega, by omega, by omega, by omega, by omega, by omega, by omega, by omega, by omega, by omega, by omega, hle _ (by rw [List.length_set]; exact hpre.1), by omega, by omega, x + 1, by omega, by omega, by omega, f1, f2, f3⟩
    · have hw : (vst t.2.1 x).2.getD (prc t.2.1 x) [] = vpre t.2.1 x := by unfold vpre; rw [if_neg hf]
      simp only [hw]
      obtain ⟨f1, f2, f3⟩ := fin _ rfl
      have hle : ∀ w : List Int, w.length = 5 → (w.take t.1.toNat).length ≤ 1000000000 := fun w hw => by rw [List.length_take]; omega
      exact ⟨by omega, by omega, by omega, by omega, by omega, by omega, by omega, by omega, by omega, by omega, by omega, hle _ (by rw [List.length_set]; exact hpre.1), by omega, by omega, x + 1, by omega, by omega, by omega, f1, f2, f3⟩
  · have hy2 : x = t.2.1.length := by omega
    subst hy2
    have : vecs t = (vst t.2.1 t.2.1.length).1.map (fun v => v.take t.1.toNat) := by unfold vecs; rw [if_pos h]
    rw [← this]
    rw [h] at hk
    exact hk

theorem okVecs : PlainOk Try.prog 22 cVecs := by
  refine plain_of (CxOk.mk' Ev5_ok rfl mixed (GOk.cons okCheck Try.func26 (by kernel_rfl) (by kernel_rfl) (GOk.cons okClone Try.func32 (by kernel_rfl) (by kernel_rfl) GOk.nil))) Try.func22 (c := Try.f22.body.getD .skip) (rvs := [(.tmp 2, .sl (.sl I)), (.tmp 3, tErr)]) (by kernel_rfl) (by kernel_rfl) (by kernel_rfl) ?_
  intro ds k ⟨hp, hk⟩ hwf
  obtain ⟨t, rfl, -⟩ := dest1 hp
  exact ⟨anVecs t, vecs_vc t k hk⟩
end Go.Proofs.Ytgbpjjinhjikeaa
