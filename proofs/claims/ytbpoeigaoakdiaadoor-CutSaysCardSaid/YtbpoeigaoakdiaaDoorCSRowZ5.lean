/- Own texts, merged: KOk, GM2, GM3, KOk2, KM, YDef, XDef, KOk3, YM1, XM. -/
import Derived.Test.YtbpoeigaoakdiaaDoorCSRowZ4
/- Clocks that count: the functions keep their contracts. -/
namespace Go.Proofs.YtbpoeigaoakdiaaDoor
open Go.Vc

theorem getD_app {α : Type} (l : List α) (s z : α) (j : Nat) : (l ++ [s]).getD j z = if j = l.length then s else l.getD j z := by
  rw [List.getD_eq_getElem?_getD, List.getD_eq_getElem?_getD]
  split
  · rename_i h; subst h; simp
  · rename_i h
    by_cases hj : j < l.length
    · rw [List.getElem?_append_left hj]
    · rw [List.getElem?_eq_none (by simp; omega), List.getElem?_eq_none (by omega)]
theorem getD_set' {α : Type} (l : List α) (s z : α) (i j : Nat) : (l.set i s).getD j z = if i = j ∧ i < l.length then s else l.getD j z := by
  rw [List.getD_eq_getElem?_getD, List.getD_eq_getElem?_getD, List.getElem?_set]
  split
  · rename_i h; subst h
    split
    · rename_i h; rw [if_pos ⟨rfl, h⟩]; rfl
    · rename_i h; rw [if_neg (by omega), List.getElem?_eq_none (by omega)]
  · rename_i h; rw [if_neg (by omega)]


theorem okClone : PlainOk Tryd.prog [] 60 cClone := by
  refine plain_of (CxOk.mk' Ev5_ok (by kernel_rfl) mixed (gl := []) GOk.nil GoOk.nil noIt) Tryd.func60 (c := Tryd.f60.body.getD .skip) (rvs := [(.tmp 2, .sl I)]) (by kernel_rfl) (by kernel_rfl) (by kernel_rfl) ?_
  intro ds k ⟨hp, hk⟩ hwf
  obtain ⟨l, rfl, hl, -⟩ := dest1 hp
  clear hp hwf
  revert hk hl
  revert l
  intro (l : List Int) hk hl
  have hk : k [⟨.sl I, l⟩] := hk
  have hl : l.length ≤ 1000000000 := hl
  refine ⟨[], ?_⟩
  rw [vcClone]
  intro b hb
  refine ⟨fun h => ?_, fun _ => ⟨by simpa using hl, hk⟩⟩
  have := hb h
  subst this
  exact hk
end Go.Proofs.YtbpoeigaoakdiaaDoor

/- Sets in sets, bit by bit. -/
namespace Go.Proofs.YtbpoeigaoakdiaaDoor
open Go.Vc

theorem tb_succ (a k : Nat) : a.testBit (k + 1) = (a / 2).testBit k := Nat.testBit_succ a k
theorem tb_zero (a : Nat) : a.testBit 0 = decide (a % 2 = 1) := Nat.testBit_zero a

theorem subN_iff : ∀ (f a b : Nat), a ≤ f → (subN f a (b : Int) = true ↔ ∀ k, a.testBit k = true → b.testBit k = true) := by
  intro f
  induction f with
  | zero =>
    intro a b h
    have : a = 0 := by omega
    subst this
    simp [subN]
  | succ f ih =>
    intro a b h
    unfold subN
    by_cases h0 : a = 0
    · subst h0; simp
    · rw [if_neg h0]
      have e1 : (b : Int).tmod 2 = ((b % 2 : Nat) : Int) := (Int.ofNat_tmod b 2).symm
      have e2 : (b : Int).tdiv 2 = ((b / 2 : Nat) : Int) := (Int.ofNat_tdiv b 2).symm
      rw [e1, e2]
      by_cases hc : a % 2 = 1 ∧ ((b % 2 : Nat) : Int) = 0
      · rw [if_pos hc]
        simp only [Bool.false_eq_true, false_iff]
        intro hall
        have := hall 0 (by rw [tb_zero]; simp [hc.1])
        rw [tb_zero, decide_eq_true_eq] at this
        have := hc.2
        omega
      · rw [if_neg hc, ih (a / 2) (b / 2) (by omega)]
        constructor
        · intro hall k hk
          cases k with
          | zero =>
            rw [tb_zero, decide_eq_true_eq] at hk
            rw [tb_zero, decide_eq_true_eq]
            rcases Nat.mod_two_eq_zero_or_one b with hb | hb
            · exact absurd ⟨hk, by rw [hb]; rfl⟩ hc
            · exact hb
          | succ k => rw [tb_succ] at hk ⊢; exact hall k hk
        · intro hall k hk
          rw [← tb_succ] at hk ⊢
          exact hall (k + 1) hk

theorem subB_iff (a b : Nat) : subB (a : Int) (b : Int) = true ↔ ∀ k, a.testBit k = true → b.testBit k = true := subN_iff a a b (Nat.le_refl _)
theorem bitB_nat (a k : Nat) : bitB (a : Int) (k : Int) = a.testBit k := by
  unfold bitB
  simp
end Go.Proofs.YtbpoeigaoakdiaaDoor

/- Whatever else goes so has it all: the last step of the law of the least order. -/
namespace Go.Proofs.YtbpoeigaoakdiaaDoor
open Go.Vc

theorem good_prc {t : Tr} (g : Good t) : ∀ i, i < t.2.1.length → prc t.2.1 i < 5 := by
  intro i hi
  have := g.ev i hi
  have := g.procs
  unfold prc
  omega
theorem good_frm {t : Tr} (g : Good t) : ∀ i, i < t.2.1.length → frm t.2.1 i < (i : Int) := by
  intro i hi
  have := g.ev i hi
  unfold frm
  omega
theorem prc_eq {t : Tr} (g : Good t) {i j : Nat} (hi : i < t.2.1.length) (hj : j < t.2.1.length) : prc t.2.1 j = prc t.2.1 i ↔ (t.2.1.getD j (0, 0, ())).1 = (t.2.1.getD i (0, 0, ())).1 := by
  have h1 := g.ev i hi
  have h2 := g.ev j hj
  unfold prc
  omega
theorem befN_at {t : Tr} {i : Nat} (hi : i < t.2.1.length) : (befN t).getD i 0 = bB t.2.1 i := bst_keep t.2.1 hi t.2.1.length hi
theorem bef_at {t : Tr} (h : chk t = 0) {i : Nat} (hi : i < t.2.1.length) : (bef t).getD i (0 : Int) = ((bB t.2.1 i : Nat) : Int) := by
  unfold bef
  rw [if_pos h, ints_getD, befN_at hi]
theorem bef_len {t : Tr} (h : chk t = 0) : (bef t).length = t.2.1.length := by
  unfold bef
  rw [if_pos h, ints_len]
  exact (bst_len _ _).1

theorem must_bit {t : Tr} (g : Good t) {i j : Nat} (hi : i < t.2.1.length) (hj : j < i) (h : mustP t i j) : bitB ((bB t.2.1 i : Nat) : Int) (j : Int) = true := by
  rw [bitB_nat]
  refine bB_must (good_prc g) (good_frm g) hi hj (h.imp ?_ id)
  exact (prc_eq g hi (by omega)).2

theorem bit_sub {t : Tr} (g : Good t) {i j : Nat} (hi : i < t.2.1.length) (h : bitB ((bB t.2.1 i : Nat) : Int) (j : Int) = true) : subB ((bB t.2.1 j : Nat) : Int) ((bB t.2.1 i : Nat) : Int) = true := by
  rw [bitB_nat] at h
  rw [subB_iff]
  intro k hk
  exact bB_trans (good_prc g) (good_frm g) hi h hk

theorem bB_bound {t : Tr} (g : Good t) {i : Nat} (hi : i < t.2.1.length) : ((bB t.2.1 i : Nat) : Int) < (2 : Int) ^ i := by
  have := bB_lt (good_prc g) (good_frm g) hi
  have e : (2 : Int) ^ i = ((2 ^ i : Nat) : Int) := by rw [Int.natCast_pow]; rfl
  rw [e]
  exact Int.ofNat_lt.2 this

theorem good_all {t : Tr} (g : Good t) {o : List Int} (h : goodP t o true t.2.1.length 0) : ∀ i, i < t.2.1.length → subB ((bB t.2.1 i : Nat) : Int) (o.getD i 0) = true := by
  obtain ⟨hl, hp, -⟩ := h rfl
  intro i
  induction i using Nat.strongRecOn with
  | _ i ih =>
    intro hi
    cases i with
    | zero =>
      have := bB_lt (good_prc g) (good_frm g) hi
      have : bB t.2.1 0 = 0 := by simpa using this
      rw [this]
      rfl
    | succ m =>
      obtain ⟨h0, -, -⟩ := hp (m + 1) 0 hi (by omega)
      obtain ⟨n, hn⟩ := Int.eq_ofNat_of_zero_le h0
      rw [hn, subB_iff]
      intro k hk
      obtain ⟨j, hj, hjk⟩ := (bB_bit (good_prc g) (good_frm g) hi k).1 hk
      have hjl : j < m + 1 := hj.1
      obtain ⟨-, h2, h3⟩ := hp (m + 1) j hi hjl
      have hb := h2 (hj.2.imp (fun h => (prc_eq g hi (by omega)).1 h.1) id)
      have hs := h3 hb
      rw [hn, bitB_nat] at hb
      rcases hjk with hjk | hjk
      · have hsub := ih j hjl (by omega)
        cases j with
        | zero =>
          have := bB_lt (good_prc g) (good_frm g) (i := 0) (by omega)
          have : bB t.2.1 0 = 0 := by simpa using this
          rw [this] at hjk
          simp at hjk
        | succ q =>
          obtain ⟨h0', -, -⟩ := hp (q + 1) 0 (by omega) (by omega)
          obtain ⟨n', hn'⟩ := Int.eq_ofNat_of_zero_le h0'
          rw [hn', subB_iff] at hsub
          rw [hn', hn, subB_iff] at hs
          exact hs k (hsub k hjk)
      · rw [hjk]; exact hb
end Go.Proofs.YtbpoeigaoakdiaaDoor

/- Clocks that count: plain clocks and vectors keep their contracts. -/
namespace Go.Proofs.YtbpoeigaoakdiaaDoor
open Go.Vc

theorem plst_len (l : List Ev) : ∀ i, (plst l i).1.length = i ∧ (plst l i).2.length = 5
  | 0 => ⟨rfl, rfl⟩
  | i + 1 => by
    obtain ⟨h1, h2⟩ := plst_len l i
    simp only [plst, List.length_append, List.length_cons, List.length_nil, List.length_set]
    exact ⟨by omega, h2⟩
theorem plst_bd (l : List Ev) : ∀ i j, (0 ≤ (plst l i).1.getD j 0 ∧ (plst l i).1.getD j 0 ≤ (i : Int)) ∧ (0 ≤ (plst l i).2.getD j 0 ∧ (plst l i).2.getD j 0 ≤ (i : Int))
  | 0, j => by
    refine ⟨⟨by simp [plst], by simp [plst]⟩, ?_⟩
    simp only [plst, List.getD_eq_getElem?_getD, List.getElem?_replicate]
    split <;> simp
  | i + 1, j => by
    have ih := plst_bd l i
    have h1 := ih (l.getD i (0, 0, ())).1.toNat
    have h2 := ih (l.getD i (0, 0, ())).2.1.toNat
    have h3 := ih j
    simp only [plst, getD_app, getD_set']
    refine ⟨?_, ?_⟩
    · split
      · split <;> omega
      · omega
    · split
      · split <;> omega
      · omega

theorem plain_vc (t : Tr) (k : List Dat → Prop) (hk : k [⟨.sl I, plain t⟩, ⟨tErr, chk t⟩]) : vcF ⟨Ev5, [(10, cCheck)], [], [], []⟩ (anPlain t) (Tryd.f37.body.getD .skip) Tryd.f37.ntmps [(.tmp 2, .sl I), (.tmp 3, tErr)] [⟨tTr, t⟩] k := by
  rw [vcPlain]
  simp only [decide_eq_true_eq, decide_eq_false_iff_not, and_true, true_and, Bool.not_eq_true', Bool.not_eq_false', Int.toNat_natCast, eq_self, inK_i64, List.replicate, List.set_cons_zero, List.length_cons, List.length_nil]
  refine ⟨fun h => ?_, fun h => ⟨⟨0, Nat.zero_le _, rfl, rfl, rfl⟩, fun x hx => ⟨fun hlt => ?_, fun hge => ?_⟩⟩⟩
  · have : plain t = [] := by unfold plain; rw [if_neg h]
    rw [← this]; exact hk
  · have g := good_of h
    have hlen := g.len
    have hpr := g.procs
    have hxl : x < t.2.1.length := by omega
    obtain ⟨p0, p1, f0, f1, _⟩ := g.ev x hxl
    obtain ⟨l1, l2⟩ := plst_len t.2.1 x
    have b1 := plst_bd t.2.1 x (t.2.1.getD x (0, 0, ())).1.toNat
    have b2 := plst_bd t.2.1 x (t.2.1.getD x (0, 0, ())).2.1.toNat
    refine ⟨by omega, hlt, p0, by omega, fun hf => ?_, fun hf => ?_⟩
    · refine ⟨hf, by omega, by omega, by omega, by omega, p0, by omega, by omega, x + 1, by omega, by omega, by omega, ?_, ?_⟩
      · simp only [plst, if_pos hf]
      · simp only [plst, if_pos hf]; rfl
    · refine ⟨by omega, by omega, by omega, p0, by omega, by omega, x + 1, by omega, by omega, by omega, ?_, ?_⟩
      · simp only [plst, if_neg hf]
      · simp only [plst, if_neg hf]; rfl
  · have hy2 : x = t.2.1.length := by omega
    subst hy2
    have : plain t = (plst t.2.1 t.2.1.length).1 := by unfold plain; rw [if_pos h]
    rw [← this]
    rw [h] at hk
    exact hk

theorem okPlain : PlainOk Tryd.prog [] 37 cPlain := by
  refine plain_of (CxOk.mk' Ev5_ok (by kernel_rfl) mixed (gl := []) (GOk.cons okCheck Tryd.func10 (by kernel_rfl) (by kernel_rfl) GOk.nil) GoOk.nil noIt) Tryd.func37 (c := Tryd.f37.body.getD .skip) (rvs := [(.tmp 2, .sl I), (.tmp 3, tErr)]) (by kernel_rfl) (by kernel_rfl) (by kernel_rfl) ?_
  intro ds k ⟨hp, hk⟩ hwf
  obtain ⟨t, rfl, -⟩ := dest1 hp
  exact ⟨anPlain t, plain_vc t k hk⟩

theorem vst_len (l : List Ev) : ∀ i, (vst l i).1.length = i ∧ (vst l i).2.length = 5
  | 0 => ⟨rfl, rfl⟩
  | i + 1 => by
    obtain ⟨h1, h2⟩ := vst_len l i
    simp only [vst, List.length_append, List.length_cons, List.length_nil, List.length_set]
    exact ⟨by omega, h2⟩
def Vok (n : Nat) (v : List Int) : Prop := v.length = 5 ∧ ∀ q, 0 ≤ v.getD q 0 ∧ v.getD q 0 ≤ (n : Int)
theorem vjoin_len (v w : List Int) (p : Nat) : (vjoin v w p).length = 5 := by simp [vjoin]
theorem vjoin_at (v w : List Int) (p q : Nat) : (vjoin v w p).getD q 0 = if q < 5 then (if q < p then max (v.getD q 0) (w.getD q 0) else v.getD q 0) else 0 := by
  unfold vjoin
  rw [List.getD_eq_getElem?_getD, List.getElem?_map]
  by_cases h : q < 5
  · rw [if_pos h, List.getElem?_range h]; rfl
  · rw [if_neg h, List.getElem?_eq_none (by simp; omega)]; rfl
theorem list_ext {v w : List Int} {n : Nat} (hv : v.length = n) (hw : w.length = n) (h : ∀ q, q < n → v.getD q 0 = w.getD q 0) : v = w := by
  apply List.ext_getElem (by omega)
  intro i h1 h2
  have := h i (by omega)
  rw [List.getD_eq_getElem?_getD, List.getD_eq_getElem?_getD, List.getElem?_eq_getElem h1, List.getElem?_eq_getElem h2] at this
  exact this
theorem vjoin_zero {v w : List Int} (hv : v.length = 5) : vjoin v w 0 = v := by
  refine list_ext (vjoin_len v w 0) hv fun q hq => ?_
  rw [vjoin_at, if_pos hq, if_neg (by omega)]
theorem vjoin_step {v w : List Int} {p : Nat} (hp : p < 5) : (vjoin v w p).set p (max ((vjoin v w p).getD p 0) (w.getD p 0)) = vjoin v w (p + 1) := by
  refine list_ext (by rw [List.length_set, vjoin_len]) (vjoin_len v w (p + 1)) fun q hq => ?_
  rw [getD_set', vjoin_len, vjoin_at v w (p + 1) q, vjoin_at v w p p, vjoin_at v w p q, if_pos hp, if_pos hq, if_pos hq, if_neg (Nat.lt_irrefl p)]
  by_cases h : p = q
  · subst h
    rw [if_pos ⟨rfl, hp⟩, if_pos (by omega)]
  · rw [if_neg (fun e => h e.1)]
    by_cases h2 : q < p
    · rw [if_pos h2, if_pos (by omega)]
    · rw [if_neg h2, if_neg (by omega)]
theorem vjoin_ok {n : Nat} {v w : List Int} (hv : Vok n v) (hw : Vok n w) (p : Nat) : Vok n (vjoin v w p) := by
  refine ⟨vjoin_len v w p, fun q => ?_⟩
  rw [vjoin_at]
  have h1 := hv.2 q
  have h2 := hw.2 q
  split
  · split <;> omega
  · omega
theorem vmore_ok {n : Nat} {v : List Int} (hv : Vok n v) (p : Nat) : Vok (n + 1) (vmore v p) := by
  refine ⟨by unfold vmore; rw [List.length_set]; exact hv.1, fun q => ?_⟩
  unfold vmore
  rw [getD_set']
  have h1 := hv.2 q
  have h2 := hv.2 p
  split <;> omega
theorem Vok.mono {n : Nat} {v : List Int} (hv : Vok n v) : Vok (n + 1) v := ⟨hv.1, fun q => by have := hv.2 q; omega⟩
theorem getD_any {α : Type} {l : List α} {i : Nat} {a b : α} (h : i < l.length) : l.getD i a = l.getD i b := by
  rw [List.getD_eq_getElem?_getD, List.getD_eq_getElem?_getD, List.getElem?_eq_getElem h]; rfl
/-- the vector of event i -/
def vec (l : List Ev) (i : Nat) : List Int := (vst l (i + 1)).1.getD i []
def vpre (l : List Ev) (i : Nat) : List Int :=
  if 0 ≤ frm l i then vjoin ((vst l i).2.getD (prc l i) []) ((vst l i).1.getD (frm l i).toNat []) 5 else (vst l i).2.getD (prc l i) []
theorem vst_succ (l : List Ev) (i : Nat) : vst l (i + 1) = ((vst l i).1 ++ [vmore (vpre l i) (prc l i)], (vst l i).2.set (prc l i) (vmore (vpre l i) (prc l i))) := rfl
theorem vec_eq (l : List Ev) (i : Nat) : vec l i = vmore (vpre l i) (prc l i) := by
  unfold vec
  rw [vst_succ]
  simp only [getD_app, (vst_len l i).1, if_true]
theorem vst_ok (l : List Ev) (hp : ∀ i, i < l.length → prc l i < 5) (hf : ∀ i, i < l.length → frm l i < (i : Int)) : ∀ m, m ≤ l.length →
    (∀ i, i < m → Vok m ((vst l m).1.getD i [])) ∧ (∀ p, p < 5 → Vok m ((vst l m).2.getD p []))
  | 0, _ => by
    refine ⟨fun i hi => absurd hi (Nat.not_lt_zero _), fun p hp => ?_⟩
    have : (vst l 0).2.getD p [] = List.replicate 5 (0 : Int) := by
      show (List.replicate 5 (List.replicate 5 (0 : Int))).getD p [] = _
      rw [List.getD_eq_getElem?_getD, List.getElem?_replicate, if_pos hp]; rfl
    rw [this]
    refine ⟨rfl, fun q => ?_⟩
    rw [List.getD_eq_getElem?_getD, List.getElem?_replicate]
    split <;> simp
  | m + 1, hm => by
    obtain ⟨h1, h2⟩ := vst_ok l hp hf m (by omega)
    obtain ⟨l1, l2⟩ := vst_len l m
    have hpm := hp m (by omega)
    have hfm := hf m (by omega)
    have hpre : Vok m (vpre l m) := by
      unfold vpre
      split
      · exact vjoin_ok (h2 _ hpm) (h1 _ (by omega)) 5
      · exact h2 _ hpm
    have hmo := vmore_ok hpre (prc l m)
    rw [vst_succ]
    refine ⟨fun i hi => ?_, fun p hp5 => ?_⟩
    · simp only [getD_app, l1]
      split
      · exact hmo
      · exact (h1 i (by omega)).mono
    · simp only [getD_set']
      split
      · exact hmo
      · exact (h2 p hp5).mono

theorem vecs_vc (t : Tr) (k : List Dat → Prop) (hk : k [⟨.sl (.sl I), vecs t⟩, ⟨tErr, chk t⟩]) : vcF ⟨Ev5, [(10, cCheck), (60, cClone)], [], [], []⟩ (anVecs t) (Tryd.f38.body.getD .skip) Tryd.f38.ntmps [(.tmp 2, .sl (.sl I)), (.tmp 3, tErr)] [⟨tTr, t⟩] k := by
  rw [vcVecs]
  simp only [decide_eq_true_eq, decide_eq_false_iff_not, and_true, true_and, Bool.not_eq_true', Bool.not_eq_false', Int.toNat_natCast, eq_self, inK_i64, List.replicate, List.set_cons_zero, List.length_cons, List.length_nil, List.length_map, Int.toNat_zero, List.drop_zero]
  refine ⟨fun h => ?_, fun h => ⟨⟨0, Nat.zero_le _, rfl, rfl, rfl, rfl⟩, fun x hx => ⟨fun hlt => ?_, fun hge => ?_⟩⟩⟩
  · have : vecs t = [] := by unfold vecs; rw [if_neg h]
    rw [← this]; exact hk
  · have g := good_of h
    have hlen := g.len
    have hpr := g.procs
    have hxl : x < t.2.1.length := by omega
    have he := g.ev x hxl
    have hpp := good_prc g x hxl
    have hff := good_frm g x hxl
    obtain ⟨l1, l2⟩ := vst_len t.2.1 x
    obtain ⟨o1, o2⟩ := vst_ok t.2.1 (good_prc g) (good_frm g) x (by omega)
    have hsuc := vst_succ t.2.1 x
    have e1 : (t.2.1.getD x (0, 0, ())).1.toNat = prc t.2.1 x := rfl
    have e2 : (t.2.1.getD x (0, 0, ())).2.1 = frm t.2.1 x := rfl
    have e3 : (t.2.1.getD x (0, 0, ())).1 = (prc t.2.1 x : Int) := by unfold prc; omega
    simp only [e1, e2] at he ⊢
    simp only [e3] at he ⊢
    have d1 : ∀ a, (vst t.2.1 x).2.getD (prc t.2.1 x) a = (vst t.2.1 x).2.getD (prc t.2.1 x) [] := fun a => getD_any (by omega)
    have d2 : ∀ a, 0 ≤ frm t.2.1 x → (vst t.2.1 x).1.getD (frm t.2.1 x).toNat a = (vst t.2.1 x).1.getD (frm t.2.1 x).toNat [] := fun a h0 => getD_any (by omega)
    have fin : ∀ w, w = vpre t.2.1 x → (vst t.2.1 x).2.set (prc t.2.1 x) (w.set (prc t.2.1 x) (w.getD (prc t.2.1 x) 0 + 1)) = (vst t.2.1 (x + 1)).2 ∧ (vst t.2.1 x).1.append [w.set (prc t.2.1 x) (w.getD (prc t.2.1 x) 0 + 1)] = (vst t.2.1 (x + 1)).1 ∧
        ((vst t.2.1 x).1.map fun v => v.take t.1.toNat).append [(w.set (prc t.2.1 x) (w.getD (prc t.2.1 x) 0 + 1)).take t.1.toNat] = (vst t.2.1 (x + 1)).1.map fun v => v.take t.1.toNat := by
      rintro w rfl
      rw [hsuc]
      refine ⟨rfl, rfl, ?_⟩
      rw [List.map_append]
      rfl
    have hpre : Vok x (vpre t.2.1 x) := by
      unfold vpre
      split
      · exact vjoin_ok (o2 _ hpp) (o1 _ (by omega)) 5
      · exact o2 _ hpp
    have hvl := (o2 _ hpp).1
    have hb := hpre.2 (prc t.2.1 x)
    simp only [d1, Int.toNat_natCast]
    refine ⟨by omega, hlt, by omega, by omega, fun hf => ?_, fun hf => ?_⟩
    · simp only [d2 _ hf]
      refine ⟨hf, by omega, ⟨0, by omega, by omega, ?_⟩, fun y hy => ⟨fun hy5 => ?_, fun hy5 => ?_⟩⟩
      · exact (vjoin_zero hvl).symm
      · exact ⟨by omega, by omega, by omega, by omega, by omega, by omega, by omega, y + 1, by omega, by omega, by omega, vjoin_step (by omega)⟩
      · have hy2 : y = 5 := by omega
        subst hy2
        have hw : vjoin ((vst t.2.1 x).2.getD (prc t.2.1 x) []) ((vst t.2.1 x).1.getD (frm t.2.1 x).toNat []) 5 = vpre t.2.1 x := by unfold vpre; rw [if_pos hf]
        simp only [hw]
        obtain ⟨f1, f2, f3⟩ := fin _ rfl
        have hle : ∀ w : List Int, w.length = 5 → (w.take t.1.toNat).length ≤ 1000000000 := fun w hw => by rw [List.length_take]; omega
        exact ⟨by omega, by omega, by omega, by omega, by omega, by omega, by omega, by omega, by omega, by omega, by omega, hle _ (by rw [List.length_set]; exact hpre.1), by omega, by omega, x + 1, by omega, by omega, by omega, f1, f2, f3⟩
    · have hw : (vst t.2.1 x).2.getD (prc t.2.1 x) [] = vpre t.2.1 x := by unfold vpre; rw [if_neg hf]
      simp only [hw]
      obtain ⟨f1, f2, f3⟩ := fin _ rfl
      have hle : ∀ w : List Int, w.length = 5 → (w.take t.1.toNat).length ≤ 1000000000 := fun w hw => by rw [List.length_take]; omega
      exact ⟨by omega, by omega, by omega, by omega, by omega, by omega, by omega, by omega, by omega, by omega, by omega, hle _ (by rw [List.length_set]; exact hpre.1), by omega, by omega, x + 1, by omega, by omega, by omega, f1, f2, f3⟩
  · have hy2 : x = t.2.1.length := by omega
    subst hy2
    have : vecs t = (vst t.2.1 t.2.1.length).1.map (fun v => v.take t.1.toNat) := by unfold vecs; rw [if_pos h]
    rw [← this]
    rw [h] at hk
    exact hk

theorem okVecs : PlainOk Tryd.prog [] 38 cVecs := by
  refine plain_of (CxOk.mk' Ev5_ok (by kernel_rfl) mixed (gl := []) (GOk.cons okCheck Tryd.func10 (by kernel_rfl) (by kernel_rfl) (GOk.cons okClone Tryd.func60 (by kernel_rfl) (by kernel_rfl) GOk.nil)) GoOk.nil noIt) Tryd.func38 (c := Tryd.f38.body.getD .skip) (rvs := [(.tmp 2, .sl (.sl I)), (.tmp 3, tErr)]) (by kernel_rfl) (by kernel_rfl) (by kernel_rfl) ?_
  intro ds k ⟨hp, hk⟩ hwf
  obtain ⟨t, rfl, -⟩ := dest1 hp
  exact ⟨anVecs t, vecs_vc t k hk⟩
end Go.Proofs.YtbpoeigaoakdiaaDoor

/- Clocks that count: each comes from that of the one ahead at its process and that of the one it heard of; who is below is before. -/
namespace Go.Proofs.YtbpoeigaoakdiaaDoor
open Go.Vc

theorem last_gen {α : Type} (l : List Ev) (z z0 : α) (val : Nat → α) (st : Nat → List α) (hp : ∀ i, i < l.length → prc l i < 5) (hl : ∀ m, (st m).length = 5)
    (h0 : ∀ p, p < 5 → (st 0).getD p z = z0) (hs : ∀ m, st (m + 1) = (st m).set (prc l m) (val m)) : ∀ m, m ≤ l.length → ∀ p, p < 5 →
    ((st m).getD p z = z0 ∧ ∀ j, j < m → prc l j ≠ p) ∨ ∃ j, j < m ∧ prc l j = p ∧ (∀ j', j < j' → j' < m → prc l j' ≠ p) ∧ (st m).getD p z = val j := by
  intro m
  induction m with
  | zero => exact fun _ p hp5 => .inl ⟨h0 p hp5, fun j hj => by omega⟩
  | succ m ih =>
    intro hm p hp5
    rw [hs, getD_set', hl]
    by_cases h : prc l m = p
    · rw [if_pos ⟨h, by rw [h]; exact hp5⟩]
      exact .inr ⟨m, by omega, h, fun j' h1 h2 => by omega, rfl⟩
    · rw [if_neg (fun e => h e.1)]
      rcases ih (by omega) p hp5 with ⟨h1, h2⟩ | ⟨j, h1, h2, h3, h4⟩
      · refine .inl ⟨h1, fun j hj => ?_⟩
        by_cases hjm : j = m
        · rw [hjm]; exact h
        · exact h2 j (by omega)
      · refine .inr ⟨j, by omega, h2, fun j' hj1 hj2 => ?_, h4⟩
        by_cases hjm : j' = m
        · rw [hjm]; exact h
        · exact h3 j' hj1 (by omega)

theorem keep_gen {α : Type} (z : α) (val : Nat → α) (st : Nat → List α) (hl : ∀ m, (st m).length = m) (hs : ∀ m, st (m + 1) = st m ++ [val m]) {i : Nat} : ∀ m, i < m → (st m).getD i z = val i := by
  intro m
  induction m with
  | zero => intro h; omega
  | succ m ih =>
    intro h
    rw [hs, getD_app, hl]
    by_cases hm : i = m
    · rw [if_pos hm, hm]
    · rw [if_neg hm]; exact ih (by omega)

/-- the plain clock of event i -/
def pl (l : List Ev) (i : Nat) : Int := (if 0 ≤ frm l i then max ((plst l i).2.getD (prc l i) 0) ((plst l i).1.getD (frm l i).toNat 0) else (plst l i).2.getD (prc l i) 0) + 1
theorem plst_succ (l : List Ev) (i : Nat) : plst l (i + 1) = ((plst l i).1 ++ [pl l i], (plst l i).2.set (prc l i) (pl l i)) := rfl
theorem pl_keep (l : List Ev) {i m : Nat} (h : i < m) : (plst l m).1.getD i 0 = pl l i :=
  keep_gen 0 (pl l) (fun m => (plst l m).1) (fun m => (plst_len l m).1) (fun m => by rw [plst_succ]) m h

theorem pl_rec {l : List Ev} (hp : ∀ i, i < l.length → prc l i < 5) (hf : ∀ i, i < l.length → frm l i < (i : Int)) {i : Nat} (hi : i < l.length) :
    ∃ a b, pl l i = max a b + 1 ∧ (a = 0 ∨ ∃ j, justB l i j ∧ a = pl l j) ∧ (b = 0 ∨ ∃ j, justB l i j ∧ b = pl l j) ∧ ∀ j, justB l i j → a = pl l j ∨ b = pl l j := by
  have hlast := last_gen l (0 : Int) 0 (pl l) (fun m => (plst l m).2) hp (fun m => (plst_len l m).2) (fun p hp5 => by
    show (List.replicate 5 (0 : Int)).getD p 0 = 0
    rw [List.getD_eq_getElem?_getD, List.getElem?_replicate, if_pos hp5]; rfl) (fun m => by rw [plst_succ]) i (by omega) (prc l i) (hp i hi)
  have hb := (plst_bd l i (prc l i)).2
  refine ⟨(plst l i).2.getD (prc l i) 0, if 0 ≤ frm l i then (plst l i).1.getD (frm l i).toNat 0 else 0, ?_, ?_, ?_, ?_⟩
  · unfold pl
    split
    · rfl
    · congr 1; omega
  · rcases hlast with ⟨h1, _⟩ | ⟨j, h1, h2, h3, h4⟩
    · exact .inl h1
    · exact .inr ⟨j, ⟨h1, .inl ⟨h2, h3⟩⟩, h4⟩
  · split
    · rename_i h0
      have := hf i hi
      exact .inr ⟨(frm l i).toNat, ⟨by omega, .inr (by omega)⟩, pl_keep l (by omega)⟩
    · exact .inl rfl
  · intro j hj
    rcases hj with ⟨hji, ⟨h1, h2⟩ | h1⟩
    · left
      rcases hlast with ⟨_, k2⟩ | ⟨j', k1, k2, k3, k4⟩
      · exact absurd h1 (k2 j hji)
      · have : j = j' := by
          rcases Nat.lt_trichotomy j j' with h | h | h
          · exact absurd k2 (h2 j' h k1)
          · exact h
          · exact absurd h1 (k3 j h hji)
        rw [this]; exact k4
    · right
      rw [if_pos (by omega), show (frm l i).toNat = j by omega]
      exact pl_keep l hji
theorem pl_pos (l : List Ev) (i : Nat) : 1 ≤ pl l i := by
  have h1 := (plst_bd l i (prc l i)).2
  unfold pl
  split <;> omega
theorem pl_le (l : List Ev) (i : Nat) : pl l i ≤ (i : Int) + 1 := by
  have h1 := (plst_bd l i (prc l i)).2
  have h2 := (plst_bd l i (frm l i).toNat).1
  unfold pl
  split <;> omega
theorem pl_less {l : List Ev} (hp : ∀ i, i < l.length → prc l i < 5) (hf : ∀ i, i < l.length → frm l i < (i : Int)) {i : Nat} (hi : i < l.length) {k : Nat} (hk : (bB l i).testBit k = true) : pl l k < pl l i := by
  induction i using Nat.strongRecOn with
  | _ i ih =>
    obtain ⟨a, b, hS, c1, c2, hall⟩ := pl_rec hp hf hi
    clear c1 c2
    obtain ⟨j, hj, hkj⟩ := (bB_bit hp hf hi k).1 hk
    have hji := hj.1
    have h1 : pl l j < pl l i := by
      rcases hall j hj with h | h <;> omega
    rcases hkj with h | h
    · have := ih j hji (by omega) h
      omega
    · rw [h]; exact h1
theorem pl_near {l : List Ev} (hp : ∀ i, i < l.length → prc l i < 5) (hf : ∀ i, i < l.length → frm l i < (i : Int)) {i : Nat} (hi : i < l.length) :
    (∃ k, (bB l i).testBit k = true ∧ pl l k + 1 = pl l i) ∨ (pl l i = 1 ∧ bB l i = 0) := by
  obtain ⟨a, b, hS, ha, hb, hall⟩ := pl_rec hp hf hi
  have bit : ∀ j, justB l i j → (bB l i).testBit j = true := fun j hj => (bB_bit hp hf hi j).2 ⟨j, hj, .inr rfl⟩
  have zero : a = 0 → b = 0 → pl l i = 1 ∧ bB l i = 0 := by
    clear ha hb
    intro h1 h2
    refine ⟨by omega, Nat.eq_of_testBit_eq fun k => ?_⟩
    rw [Nat.zero_testBit]
    cases hq : (bB l i).testBit k with
    | false => rfl
    | true =>
      obtain ⟨j, hj, _⟩ := (bB_bit hp hf hi k).1 hq
      have := pl_pos l j
      rcases hall j hj with h | h <;> omega
  rcases ha with ha | ⟨j, hj, ha⟩ <;> rcases hb with hb | ⟨j', hj', hb⟩
  · exact .inr (zero ha hb)
  · have := pl_pos l j'
    exact .inl ⟨j', bit j' hj', by omega⟩
  · have := pl_pos l j
    exact .inl ⟨j, bit j hj, by omega⟩
  · by_cases h : a ≤ b
    · exact .inl ⟨j', bit j' hj', by omega⟩
    · exact .inl ⟨j, bit j hj, by omega⟩

/-! Vectors. -/
def V (l : List Ev) (i q : Nat) : Int := (vec l i).getD q 0
theorem vec_keep (l : List Ev) {i m : Nat} (h : i < m) : (vst l m).1.getD i [] = vec l i :=
  keep_gen [] (vec l) (fun m => (vst l m).1) (fun m => (vst_len l m).1) (fun m => by rw [vst_succ, vec_eq]) m h

theorem vec_rec {l : List Ev} (hp : ∀ i, i < l.length → prc l i < 5) (hf : ∀ i, i < l.length → frm l i < (i : Int)) {i : Nat} (hi : i < l.length) :
    ∃ a b : Nat → Int, (∀ q, q < 5 → V l i q = max (a q) (b q) + (if prc l i = q then 1 else 0)) ∧ (a = (fun _ => 0) ∨ ∃ j, justB l i j ∧ a = V l j) ∧ (b = (fun _ => 0) ∨ ∃ j, justB l i j ∧ b = V l j) ∧ ∀ j, justB l i j → a = V l j ∨ b = V l j := by
  have hlast := last_gen l ([] : List Int) (List.replicate 5 0) (vec l) (fun m => (vst l m).2) hp (fun m => (vst_len l m).2) (fun p hp5 => by
    show (List.replicate 5 (List.replicate 5 (0 : Int))).getD p [] = _
    rw [List.getD_eq_getElem?_getD, List.getElem?_replicate, if_pos hp5]; rfl) (fun m => by rw [vst_succ, vec_eq]) i (by omega) (prc l i) (hp i hi)
  obtain ⟨o1, o2⟩ := vst_ok l hp hf i (by omega)
  have hb := o2 (prc l i) (hp i hi)
  have z5 : ∀ q, (List.replicate 5 (0 : Int)).getD q 0 = 0 := by
    intro q
    rw [List.getD_eq_getElem?_getD, List.getElem?_replicate]
    split <;> rfl
  refine ⟨fun q => ((vst l i).2.getD (prc l i) []).getD q 0, if 0 ≤ frm l i then (fun q => ((vst l i).1.getD (frm l i).toNat []).getD q 0) else (fun _ => 0), ?_, ?_, ?_, ?_⟩
  · intro q hq
    have hlen : (vpre l i).length = 5 := by
      unfold vpre
      split
      · exact vjoin_len ..
      · exact hb.1
    have hat : (vpre l i).getD q 0 = max (((vst l i).2.getD (prc l i) []).getD q 0) ((if 0 ≤ frm l i then (fun q => ((vst l i).1.getD (frm l i).toNat []).getD q 0) else (fun _ => 0)) q) := by
      unfold vpre
      split
      · rw [vjoin_at, if_pos hq, if_pos hq]
      · have := hb.2 q
        show ((vst l i).2.getD (prc l i) []).getD q 0 = max _ 0
        omega
    unfold V
    rw [vec_eq]
    unfold vmore
    rw [getD_set', hlen]
    by_cases h : prc l i = q
    · subst h
      rw [if_pos ⟨rfl, hp i hi⟩, if_pos rfl, hat]
    · rw [if_neg (fun e => h e.1), if_neg h, hat, Int.add_zero]
  · rcases hlast with ⟨h1, _⟩ | ⟨j, h1, h2, h3, h4⟩
    · left
      funext q
      rw [h1]; exact z5 q
    · refine .inr ⟨j, ⟨h1, .inl ⟨h2, h3⟩⟩, ?_⟩
      funext q
      rw [h4]; rfl
  · split
    · rename_i h0
      have := hf i hi
      refine .inr ⟨(frm l i).toNat, ⟨by omega, .inr (by omega)⟩, ?_⟩
      funext q
      rw [vec_keep l (by omega)]; rfl
    · exact .inl rfl
  · intro j hj
    rcases hj with ⟨hji, ⟨h1, h2⟩ | h1⟩
    · left
      rcases hlast with ⟨_, k2⟩ | ⟨j', k1, k2, k3, k4⟩
      · exact absurd h1 (k2 j hji)
      · have : j = j' := by
          rcases Nat.lt_trichotomy j j' with h | h | h
          · exact absurd k2 (h2 j' h k1)
          · exact h
          · exact absurd h1 (k3 j h hji)
        funext q
        rw [this, k4]; rfl
    · right
      rw [if_pos (by omega), show (frm l i).toNat = j by omega]
      funext q
      rw [vec_keep l hji]; rfl

theorem V_nonneg {l : List Ev} (hp : ∀ i, i < l.length → prc l i < 5) (hf : ∀ i, i < l.length → frm l i < (i : Int)) {i : Nat} (hi : i < l.length) (q : Nat) : 0 ≤ V l i q := by
  have := ((vst_ok l hp hf (i + 1) (by omega)).1 i (by omega)).2 q
  exact this.1
/-- A: who is before has no more. -/
theorem V_mono {l : List Ev} (hp : ∀ i, i < l.length → prc l i < 5) (hf : ∀ i, i < l.length → frm l i < (i : Int)) {i : Nat} (hi : i < l.length) {k : Nat} (hk : (bB l i).testBit k = true) {q : Nat} (hq : q < 5) : V l k q + (if prc l i = q then 1 else 0) ≤ V l i q := by
  induction i using Nat.strongRecOn with
  | _ i ih =>
    obtain ⟨a, b, hS, _, _, hall⟩ := vec_rec hp hf hi
    obtain ⟨j, hj, hkj⟩ := (bB_bit hp hf hi k).1 hk
    have hji := hj.1
    have h1 : V l j q + (if prc l i = q then 1 else 0) ≤ V l i q := by
      rw [hS q hq]
      rcases hall j hj with h | h <;> rw [h] <;> omega
    rcases hkj with h | h
    · have := ih j hji (by omega) h
      split at this <;> omega
    · rw [h]; exact h1
/-- B: what one knows of a process comes from an event there. -/
theorem V_from {l : List Ev} (hp : ∀ i, i < l.length → prc l i < 5) (hf : ∀ i, i < l.length → frm l i < (i : Int)) {i : Nat} (hi : i < l.length) {q : Nat} (hq : q < 5) :
    V l i q = 0 ∨ ∃ k, k < l.length ∧ prc l k = q ∧ (k = i ∨ (bB l i).testBit k = true) ∧ V l k q = V l i q := by
  induction i using Nat.strongRecOn with
  | _ i ih =>
    obtain ⟨a, b, hS, ha, hb, _⟩ := vec_rec hp hf hi
    by_cases hpq : prc l i = q
    · exact .inr ⟨i, hi, hpq, .inl rfl, rfl⟩
    · have e := hS q hq
      rw [if_neg hpq] at e
      have one : ∀ c : Nat → Int, (c = (fun _ => 0) ∨ ∃ j, justB l i j ∧ c = V l j) → c q = V l i q → V l i q = 0 ∨ ∃ k, k < l.length ∧ prc l k = q ∧ (k = i ∨ (bB l i).testBit k = true) ∧ V l k q = V l i q := by
        intro c hc hq'
        rcases hc with rfl | ⟨j, hj, rfl⟩
        · exact .inl hq'.symm
        · have hji := hj.1
          rcases ih j hji (by omega) with h | ⟨k, h1, h2, h3, h4⟩
          · exact .inl (by omega)
          · exact .inr ⟨k, h1, h2, .inr ((bB_bit hp hf hi k).2 ⟨j, hj, h3.symm⟩), by omega⟩
      by_cases hab : a q ≤ b q
      · exact one b hb (by omega)
      · exact one a ha (by omega)
theorem V_own {l : List Ev} (hp : ∀ i, i < l.length → prc l i < 5) (hf : ∀ i, i < l.length → frm l i < (i : Int)) {i : Nat} (hi : i < l.length) : 1 ≤ V l i (prc l i) := by
  obtain ⟨a, b, hS, ha, hb, _⟩ := vec_rec hp hf hi
  have e := hS _ (hp i hi)
  rw [if_pos rfl] at e
  have h0 : 0 ≤ a (prc l i) := by
    rcases ha with rfl | ⟨j, hj, rfl⟩
    · exact Int.le_refl 0
    · have := hj.1
      exact V_nonneg hp hf (by omega) _
  omega
/-- One knows of as many of the other one's process just if it is that one, or that one is before it. -/
theorem V_iff {l : List Ev} (hp : ∀ i, i < l.length → prc l i < 5) (hf : ∀ i, i < l.length → frm l i < (i : Int)) {i j : Nat} (hi : i < l.length) (hj : j < l.length) :
    V l i (prc l i) ≤ V l j (prc l i) ↔ (i = j ∨ (bB l j).testBit i = true) := by
  constructor
  · intro h
    have h1 := V_own hp hf hi
    rcases V_from hp hf hj (hp i hi) with h0 | ⟨k, hk, hkp, hkj, hV⟩
    · omega
    · have hik : ¬ k < i := by
        intro hlt
        have := V_mono hp hf hi (bB_must hp hf hi hlt (.inl hkp)) (hp i hi)
        rw [if_pos rfl] at this
        omega
      by_cases he : i = k
      · rw [he]
        rcases hkj with h | h
        · exact .inl h
        · exact .inr h
      · have hb := bB_must hp hf hk (j := i) (by omega) (.inl hkp.symm)
        rcases hkj with h | h
        · right; rw [← h]; exact hb
        · right; exact bB_trans hp hf hj h hb
  · rintro (rfl | h)
    · exact Int.le_refl _
    · have := V_mono hp hf hj h (hp i hi)
      split at this <;> omega
end Go.Proofs.YtbpoeigaoakdiaaDoor

/- Clocks that count, and the row: the document's answers. -/
namespace Go.Proofs.YtbpoeigaoakdiaaDoor.H
open Go.Vc
def Ey : Env := { tys := [(3, I), (4, .bool), (5, .int .u8), (9, .str), (22, .sl tEv), (24, tTr), (30, .sl I), (28, tErr), (70, tEv), (61, .sl (.sl I)), (74, .ar 5 I)], errT := 71, eqs := [], els := [(22, 70), (30, 3), (61, 30)] }
theorem Ey_ok : EnvOk Tryd.prog Ey := EnvOk.of_list (by kernel_rfl) (by kernel_rfl) (by kernel_rfl)
/-- plain clocks: the greatest of those before -/
def nU (l : List Ev) (i : Nat) : Nat → Int
  | 0 => 0
  | j + 1 => if (bB l i).testBit j = true ∧ nU l i j < pl l j then pl l j else nU l i j
def pls (l : List Ev) (i : Nat) : List Int := (List.range i).map (pl l)
def cRPlain : Ctr := cdet [tTr] (fun t => chk t = 0 ∧ True) (fun t => [⟨.sl I, plain t⟩])
def anRPlain (t : Tr) : Ann := [joinAll,
  loopAt 4 Nat [(4, 3, I)] (fun st i => { St.at (St.only st [1, 3, 4]) [(5, .d I (i : Int))] with ob := [.var 24 tTr t, .row 3 I (pls t.2.1 i)] }) (fun _ i => i ≤ t.2.1.length ∧ True) (fun i => t.2.1.length - i),
  loopAt 8 Nat [] (fun st j => St.at (St.only st [1, 3, 4, 5]) [(6, .d I (nU t.2.1 (st.i 5).toNat j)), (7, .d I (j : Int))]) (fun st j => j ≤ (st.i 5).toNat ∧ True) (fun j => t.2.1.length - j)]
/-- vectors: counted -/
def cntU (l : List Ev) (i q : Nat) : Nat → Int
  | 0 => 0
  | j + 1 => if (i = j ∨ (bB l i).testBit j = true) ∧ prc l j = q then cntU l i q j + 1 else cntU l i q j
def cntR (t : Tr) (i j : Nat) : List Int := (List.range t.1.toNat).map fun q => cntU t.2.1 i q j
def vls (t : Tr) (i : Nat) : List (List Int) := (List.range i).map fun j => (vec t.2.1 j).take t.1.toNat
def cRVecs : Ctr := cdet [tTr] (fun t => chk t = 0 ∧ True) (fun t => [⟨.sl (.sl I), vecs t⟩])
def anRVecs (t : Tr) : Ann := [joinAll, freezeAt 12 [6],
  loopAt 4 Nat [(4, 30, Ty.sl I)] (fun st i => { St.at (St.only st [1, 3, 4]) [(5, .d I (i : Int))] with ob := [.var 24 tTr t, .row 30 (.sl I) (vls t i)] }) (fun _ i => i ≤ t.2.1.length ∧ True) (fun i => t.2.1.length - i),
  loopAt 8 Nat [] (fun st j => { St.at (St.only st [1, 3, 4, 5, 6]) [(7, .d I (j : Int))] with ob := [.var 24 tTr t, .row 30 (.sl I) (vls t (st.i 5).toNat), .row 3 I (cntR t (st.i 5).toNat j)] }) (fun st j => j ≤ (st.i 5).toNat + 1 ∧ True) (fun j => t.2.1.length + 1 - j)]
/-- the row: by clock, and then by process -/
def rC (t : Tr) (n p : Int) : Nat → List Int
  | 0 => []
  | i + 1 => rC t n p i ++ (if (plain t).getD i 0 = n ∧ (evA t.2.1 i).1 = p then [(i : Int)] else [])
def rB (t : Tr) (n : Int) : Nat → List Int
  | 0 => []
  | p + 1 => rB t n p ++ rC t n (p : Int) t.2.1.length
def rA (t : Tr) : Nat → List Int
  | 0 => []
  | n + 1 => rA t n ++ rB t ((n : Int) + 1) t.1.toNat
def rrow (t : Tr) : List Int := if chk t = 0 then rA t t.2.1.length else []
def cRRow : Ctr := cdet [tTr] (fun t => chk t = 0 ∧ True) (fun t => [⟨.sl I, rrow t⟩])
/-- a number and one -/
def nx (n : Nat) : Int := (n : Int) + 1
def anRRow (t : Tr) : Ann := [joinAll,
  loopAt 4 Nat [(4, 3, I)] (fun st n => { St.at (St.only st [1, 3, 4]) [(5, .d I (nx n))] with ob := [.var 24 tTr t, .row 3 I (rA t n)] }) (fun _ n => n ≤ t.2.1.length ∧ True) (fun n => t.2.1.length - n),
  loopAt 7 Nat [] (fun st p => { St.at (St.only st [1, 3, 4, 5]) [(6, .d I (p : Int))] with ob := [.var 24 tTr t, .row 3 I (rA t (st.i 5 - 1).toNat ++ rB t (st.i 5) p)] }) (fun _ p => p ≤ t.1.toNat ∧ True) (fun p => t.1.toNat - p),
  loopAt 10 Nat [] (fun st i => { St.at (St.only st [1, 3, 4, 5, 6]) [(7, .d I (i : Int))] with ob := [.var 24 tTr t, .row 3 I (rA t (st.i 5 - 1).toNat ++ rB t (st.i 5) (st.i 6).toNat ++ rC t (st.i 5) (st.i 6) i)] }) (fun _ i => i ≤ t.2.1.length ∧ True) (fun i => t.2.1.length - i)]
def blE (v w : List Int) : Int := if v.length = w.length then 0 else 3
def leU (v w : List Int) (i : Nat) : Bool := (List.range i).all fun j => decide (v.getD j 0 ≤ w.getD j 0)
def blB (v w : List Int) : Bool := decide (v.length = w.length) && (!(v == w) && leU v w v.length)
def cEq : Ctr := cdet [.sl I, .sl I] (fun _ _ => True) (fun (v w : List Int) => [⟨.bool, v == w⟩])
def anEq (v w : List Int) : Ann := [loopAt 4 Nat [] (fun st i => St.at (St.only st [0, 1, 12]) [(13, .d I (i : Int))]) (fun _ i => i ≤ v.length ∧ v.take i = w.take i) (fun i => v.length - i)]
def cBelow : Ctr := cdet [.sl I, .sl I] (fun _ _ => True) (fun (v w : List Int) => [⟨.bool, blB v w⟩, ⟨tErr, blE v w⟩])
def anBelow (v w : List Int) : Ann := [joinAll, loopAt 4 Nat [] (fun st i => St.at (St.only st [0, 1, 14]) [(15, .d I (i : Int))]) (fun _ i => i ≤ v.length ∧ leU v w i = true) (fun i => v.length - i)]
def cLawS : Ctr := cdet [tTr, .sl I, .sl I] (fun _ _ _ => True) (fun _ _ _ => [⟨.bool, true⟩])
def anLawS (t : Tr) (v w : List Int) : Ann := [joinAll,
  meetAt 8 Unit [] (fun st _ => St.at (St.only st [1, 2, 3]) [(7, .d I (chk t)), (8, .d (.sl I) (plain t)), (9, .d (.sl I) (rrow t)), (10, .d (.sl (.sl I)) (vecs t))]) (fun _ _ => True ∧ True),
  meetAt 14 Unit [] (fun st _ => St.at (St.only st [1, 2]) [(13, .d .bool true), (15, .d .bool true), (16, .d .bool true)]) (fun _ _ => True ∧ True),
  loopAt 20 Nat [] (fun st i => St.at (St.only st [1, 2, 7, 13, 15, 16]) [(17, .d .bool (!(v == w) && leU v w i)), (18, .d I (i : Int))]) (fun _ i => i ≤ v.length ∧ v.length = w.length) (fun i => v.length - i),
  meetAt 23 Unit [] (fun st _ => St.at (St.only st [1, 2, 13, 15, 16]) [(7, .d I (blE v w)), (17, .d .bool (blB v w))]) (fun _ _ => True ∧ True)]
end Go.Proofs.YtbpoeigaoakdiaaDoor.H

/- Cuts: the document's answers; the laws. -/
namespace Go.Proofs.YtbpoeigaoakdiaaDoor.H
open Go.Vc
/-- is an event in a cut? -/
def inC (t : Tr) (c : List Int) (m : Nat) : Bool := decide ((nth t.2.1 m : Int) < c.getD (evA t.2.1 m).1.toNat 0)
def setI (t : Tr) (c : List Int) : Nat → Int
  | 0 => 0
  | m + 1 => if inC t c m = true then setI t c m + (2 : Int) ^ m else setI t c m
def cRSet : Ctr := cdet [tTr, .sl I] (fun t c => cutE t c = 0 ∧ True) (fun t c => [⟨I, (setN t c : Int)⟩])
def anRSet (t : Tr) (c : List Int) : Ann := [joinAll, loopAt 3 Nat [] (fun st i => St.at (St.only st [1, 2]) [(5, .d I (setI t c i)), (6, .d I (i : Int))]) (fun _ i => i ≤ t.2.1.length ∧ True) (fun i => t.2.1.length - i)]
/-- of what an event of a cut heard, is that in it? -/
def fromB (t : Tr) (s : Int) (m : Nat) : Bool := !bitB s (m : Int) || (decide ((evA t.2.1 m).2.1 < 0) || bitB s (evA t.2.1 m).2.1)
def cRWhole : Ctr := cdet [tTr, .sl I] (fun t c => cutE t c = 0 ∧ True) (fun t c => [⟨.bool, wholeB t c⟩])
def anRWhole (t : Tr) (c : List Int) : Ann := [joinAll, loopAt 3 Nat [] (fun st i => St.at (St.only st [2, 5]) [(6, .d I (i : Int))]) (fun _ i => i ≤ t.2.1.length ∧ ∀ m, m < i → fromB t (setN t c : Int) m = true) (fun i => t.2.1.length - i)]
def cut0 (t : Tr) (c : List Int) : Int := if chk t = 0 ∧ (c.length : Int) ≠ t.1 then 3 else chk t
def cRCut : Ctr := cdet [tTr, .sl I] (fun _ _ => True) (fun t c => [⟨I, cutE t c⟩])
def anRCut (t : Tr) (c : List Int) : Ann := [joinAll,
  meetAt 4 Int [] (fun st e => St.at (St.only st [1, 2]) [(5, .d I e)]) (fun _ e => e = cut0 t c ∧ True),
  loopAt 5 (Nat × Int) [] (fun st g => St.at (St.only st [1, 2]) [(5, .d I g.2), (6, .d I (g.1 : Int))])
    (fun _ g => g.1 ≤ c.length ∧ (g.2 = 0 → cut0 t c = 0 ∧ ∀ p, p < g.1 → inB (c.getD p 0) 0 (lenT t p : Int) = true) ∧ (g.2 ≠ 0 → cutE t c = g.2)) (fun g => c.length - g.1)]
/-- is an event in the line in a cut? -/
def lnB (t : Tr) (c : List Int) (m : Nat) : Bool := bitB (setN t c : Int) (m : Int) && subB ((ints (befN t)).getD m 0) (setN t c : Int)
def lnU (t : Tr) (c : List Int) (p : Nat) : Nat → Int
  | 0 => 0
  | m + 1 => if lnB t c m = true ∧ prc t.2.1 m = p then lnU t c p m + 1 else lnU t c p m
def lnR (t : Tr) (c : List Int) (m : Nat) : List Int := (List.range t.1.toNat).map fun p => lnU t c p m
def lineR (t : Tr) (c : List Int) : List Int := lnR t c t.2.1.length
def cRLine : Ctr := cdet [tTr, .sl I] (fun t c => cutE t c = 0 ∧ True) (fun t c => [⟨.sl I, lineR t c⟩])
def anRLine (t : Tr) (c : List Int) : Ann := [joinAll, loopAt 5 Nat [] (fun st i => { St.at (St.only st [2, 5, 6, 7]) [(8, .d I (i : Int))] with ob := [.var 24 tTr t, .row 3 I (lnR t c i)] }) (fun _ i => i ≤ t.2.1.length ∧ True) (fun i => t.2.1.length - i)]
/-- how many whole cuts go on from one -/
def cRCuts (d : Nat) : Ctr := cdet [tTr, .sl I] (fun t c => chk t = 0 ∧ (c.length ≤ t.1.toNat ∧ t.1.toNat < c.length + d) ∧ ∀ p, p < c.length → 0 ≤ c.getD p 0 ∧ c.getD p 0 ≤ (lenT t p : Int)) (fun t c => [⟨I, (cutsN t (t.1.toNat - c.length) c : Int)⟩])
def cutsU (t : Tr) (c : List Int) (d : Nat) (k : Nat) : Nat := ((List.range k).map fun j => cutsN t d (c ++ [((j : Nat) : Int)])).sum
def anRCuts (t : Tr) (c : List Int) : Ann := [joinAll, loopAt 8 Nat [] (fun st k => St.at (St.only st [1, 2, 5]) [(6, .d I (cutsU t c (t.1.toNat - c.length - 1) k : Int)), (7, .d I (k : Int))]) (fun _ k => k ≤ lenT t c.length + 1 ∧ c.length < t.1.toNat) (fun k => lenT t c.length + 1 - k)]
def prodU (t : Tr) : Nat → Nat
  | 0 => 1
  | p + 1 => prodU t p * (lenT t p + 1)
def cLawC : Ctr := cdet [tTr] (fun _ => True) (fun _ => [⟨.bool, true⟩])
def anLawC (t : Tr) : Ann := [joinAll, loopAt 9 Nat [] (fun st p => St.at (St.only st [1, 4]) [(6, .d I (prodU t p : Int)), (7, .d I (p : Int))]) (fun _ p => p ≤ t.1.toNat ∧ chk t = 0) (fun p => 5 - p)]
def cLawX : Ctr := cdet [tTr, .sl I] (fun _ _ => True) (fun _ _ => [⟨.bool, true⟩])
def lineQ (t : Tr) (c : List Int) : List Int := if cutE t c = 0 then lineR t c else []
def anLawX (t : Tr) (c : List Int) : Ann := [joinAll,
  meetAt 5 Unit [] (fun st _ => St.at (St.only st [1, 2]) [(5, .d I (chk t)), (6, .d I (if chk t = 0 then (countW t : Int) else 0))]) (fun _ _ => True ∧ True),
  meetAt 7 Unit [] (fun st _ => St.at (St.only st [1, 2]) [(9, .d .bool true)]) (fun _ _ => True ∧ True),
  meetAt 15 Unit [] (fun st _ => St.at (St.only st [1, 2, 9]) [(5, .d I (cutE t c)), (10, .d I (setE t c)), (11, .d (.sl I) (lineQ t c)), (12, .d .bool (if cutE t c = 0 then wholeB t c else false))]) (fun _ _ => True ∧ True),
  meetAt 19 Unit [] (fun st _ => St.at (St.only st [1, 2, 5, 9, 11]) [(13, .d .bool true), (15, .d .bool true)]) (fun _ _ => True ∧ True)]
end Go.Proofs.YtbpoeigaoakdiaaDoor.H

/- Clocks that count: rows alike; the closed fact. -/
namespace Go.Proofs.YtbpoeigaoakdiaaDoor
open Go.Vc

theorem take_nextL {a b : List (List Int)} {x : Nat} (ha : x < a.length) (hb : x < b.length) (h : a.take x = b.take x) (e : a.getD x [] = b.getD x []) : a.take (x + 1) = b.take (x + 1) := by
  rw [List.take_add_one, List.take_add_one, h]
  rw [List.getD_eq_getElem?_getD, List.getD_eq_getElem?_getD, List.getElem?_eq_getElem ha, List.getElem?_eq_getElem hb] at e
  rw [List.getElem?_eq_getElem ha, List.getElem?_eq_getElem hb]
  simp only [Option.getD_some] at e
  rw [e]
theorem rows_vc (a b : List (List Int)) (k : List Dat → Prop) (hl : a.length ≤ maxLen) (hk : k [⟨.bool, a == b⟩]) : vcF ⟨Ev5, [(14, cInts)], [], [], []⟩ (anRows a b) (Tryd.f39.body.getD .skip) Tryd.f39.ntmps [(.tmp 4, .bool)] [⟨.sl (.sl I), a⟩, ⟨.sl (.sl I), b⟩] k := by
  rw [vcRows]
  have hml : maxLen ≤ 9223372036854775807 := by decide
  simp only [decide_eq_true_eq, decide_eq_false_iff_not, and_true, true_and, Bool.not_eq_true', Bool.not_eq_false', Int.toNat_natCast, inK_i64, eq_self]
  have ret : ∀ x : Bool, (a == b) = x → k [⟨.bool, x⟩] := by rintro _ rfl; exact hk
  refine ⟨fun h => ret _ ?_, fun h => ⟨⟨0, ⟨by omega, rfl⟩, rfl⟩, fun x ⟨hx, ht⟩ => ⟨fun hlt => ⟨by omega, hlt, by omega, by omega, fun hne => ret _ ?_, fun he => ⟨by omega, x + 1, ⟨by omega, take_nextL (by omega) (by omega) ht (by simpa using he)⟩, by omega, by omega⟩⟩, fun hge => ret _ ?_⟩⟩⟩
  · rw [beq_eq_false_iff_ne]; intro he; exact h (by rw [he])
  · rw [beq_eq_false_iff_ne]; intro he; rw [he] at hne; simp at hne
  · have h1 : x = a.length := by omega
    rw [h1, List.take_length, List.take_of_length_le (by omega)] at ht
    rw [ht]; exact beq_self_eq_true b
theorem okRows : PlainOk Tryd.prog [] 39 cRows := by
  refine plain_of (CxOk.mk' Ev5_ok (by kernel_rfl) mixed (gl := []) (GOk.cons okInts Tryd.func14 (by kernel_rfl) (by kernel_rfl) GOk.nil) GoOk.nil noIt) Tryd.func39 (c := Tryd.f39.body.getD .skip) (rvs := [(.tmp 4, .bool)]) (by kernel_rfl) (by kernel_rfl) (by kernel_rfl) ?_
  intro ds k ⟨hp, hk⟩ hwf
  obtain ⟨a, b, rfl, -⟩ := dest2 hp
  exact ⟨anRows a b, rows_vc a b k (wf2 hwf).1.1 hk⟩

theorem plain_len {t : Tr} (h : chk t = 0) : (plain t).length = t.2.1.length := by
  unfold plain; rw [if_pos h]; exact (plst_len _ _).1
theorem plain_at {t : Tr} (h : chk t = 0) {i : Nat} (hi : i < t.2.1.length) : (plain t).getD i 0 = pl t.2.1 i := by
  unfold plain; rw [if_pos h]; exact pl_keep _ hi

end Go.Proofs.YtbpoeigaoakdiaaDoor

/- Clocks that count: the document's answers are the program's: the facts. -/
namespace Go.Proofs.YtbpoeigaoakdiaaDoor.H
open Go.Vc
/-! Plain clocks. -/
theorem nU_spec (l : List Ev) (i : Nat) : ∀ j, 0 ≤ nU l i j ∧ (∀ m, m < j → (bB l i).testBit m = true → pl l m ≤ nU l i j) ∧ (nU l i j = 0 ∨ ∃ m, m < j ∧ (bB l i).testBit m = true ∧ nU l i j = pl l m)
  | 0 => ⟨Int.le_refl _, fun m hm => absurd hm (Nat.not_lt_zero _), .inl rfl⟩
  | j + 1 => by
    obtain ⟨h1, h2, h3⟩ := nU_spec l i j
    have hj := pl_pos l j
    unfold nU
    by_cases h : (bB l i).testBit j = true ∧ nU l i j < pl l j
    · rw [if_pos h]
      refine ⟨by omega, fun m hm hb => ?_, .inr ⟨j, by omega, h.1, rfl⟩⟩
      by_cases hmj : m = j
      · subst hmj; exact Int.le_refl _
      · have := h2 m (by omega) hb
        omega
    · rw [if_neg h]
      refine ⟨h1, fun m hm hb => ?_, ?_⟩
      · by_cases hmj : m = j
        · subst hmj
          exact Int.not_lt.1 fun e => h ⟨hb, e⟩
        · exact h2 m (by omega) hb
      · rcases h3 with h3 | ⟨m, h4, h5, h6⟩
        · exact .inl h3
        · exact .inr ⟨m, by omega, h5, h6⟩
theorem nU_eq {l : List Ev} (g : Gd l) {i : Nat} (hi : i < l.length) : nU l i i + 1 = pl l i := by
  obtain ⟨h1, h2, h3⟩ := nU_spec l i i
  have ha : nU l i i + 1 ≤ pl l i := by
    rcases h3 with h3 | ⟨m, h4, h5, h6⟩
    · have := pl_pos l i; omega
    · have := pl_less g.p g.f hi h5; omega
  rcases pl_near g.p g.f hi with ⟨k, hk, e⟩ | ⟨e, _⟩
  · have := h2 k (bB_less g.p g.f hi hk) hk
    omega
  · omega
theorem pls_len (l : List Ev) (i : Nat) : (pls l i).length = i := by simp [pls]
theorem pls_at {l : List Ev} {i j : Nat} (h : j < i) : (pls l i).getD j 0 = pl l j := by
  unfold pls
  rw [List.getD_eq_getElem?_getD, List.getElem?_map, List.getElem?_range h]; rfl
theorem pls_succ (l : List Ev) (i : Nat) : pls l (i + 1) = pls l i ++ [pl l i] := by unfold pls; rw [List.range_succ, List.map_append]; rfl
theorem pls_all {t : Tr} (h : chk t = 0) : pls t.2.1 t.2.1.length = plain t := by
  refine List.ext_getElem (by rw [pls_len, plain_len h]) fun i h1 h2 => ?_
  have hi : i < t.2.1.length := by rw [pls_len] at h1; exact h1
  have a := pls_at (l := t.2.1) hi
  have b := plain_at h hi
  rw [List.getD_eq_getElem?_getD, List.getElem?_eq_getElem h1] at a
  rw [List.getD_eq_getElem?_getD, List.getElem?_eq_getElem h2] at b
  exact a.trans b.symm

/-! Vectors. -/
theorem cntP_last (l : List Ev) (q : Nat) : ∀ i, cntP l q i = 0 ∨ ∃ j, j < i ∧ prc l j = q ∧ cntP l q i = cntP l q j + 1
  | 0 => .inl rfl
  | i + 1 => by
    by_cases h : prc l i = q
    · exact .inr ⟨i, by omega, h, by simp only [cntP]; rw [if_pos h]⟩
    · have e : cntP l q (i + 1) = cntP l q i := by simp only [cntP]; rw [if_neg h]
      rcases cntP_last l q i with h1 | ⟨j, h1, h2, h3⟩
      · exact .inl (e.trans h1)
      · exact .inr ⟨j, by omega, h2, e.trans h3⟩
theorem cntP_step {l : List Ev} {q j : Nat} (h : prc l j = q) : cntP l q (j + 1) = cntP l q j + 1 := by simp only [cntP]; rw [if_pos h]
theorem V_rank {l : List Ev} (g : Gd l) {i : Nat} (hi : i < l.length) : V l i (prc l i) = (cntP l (prc l i) i : Int) + 1 := by
  induction i using Nat.strongRecOn with
  | _ i ih =>
    obtain ⟨a, b, hS, ha, hb, _⟩ := vec_rec g.p g.f hi
    have e := hS _ (g.p i hi)
    rw [if_pos rfl] at e
    have up : ∀ j, justB l i j → V l j (prc l i) ≤ (cntP l (prc l i) i : Int) := by
      intro j hj
      have hji := hj.1
      rcases V_from g.p g.f (i := j) (by omega) (g.p i hi) with h | ⟨k, hk, hkp, hkj, hV⟩
      · rw [h]; omega
      · have hki : k < i := by
          rcases hkj with rfl | h
          · exact hji
          · have := bB_less g.p g.f (i := j) (by omega) h; omega
        have e1 := ih k hki hk
        rw [hkp] at e1
        have e2 := cntP_mono l (prc l i) (i := k + 1) (j := i) (by omega)
        rw [cntP_step hkp] at e2
        omega
    have hle : V l i (prc l i) ≤ (cntP l (prc l i) i : Int) + 1 := by
      rcases ha with rfl | ⟨j, hj, rfl⟩ <;> rcases hb with rfl | ⟨j', hj', rfl⟩
      · simp only [] at e; omega
      · have := up j' hj'; simp only [] at e; omega
      · have := up j hj; simp only [] at e; omega
      · have := up j hj; have := up j' hj'; omega
    have hge : (cntP l (prc l i) i : Int) + 1 ≤ V l i (prc l i) := by
      rcases cntP_last l (prc l i) i with h | ⟨j, hj, hjp, h⟩
      · have := V_own g.p g.f hi; omega
      · have hb := bB_must g.p g.f hi hj (.inl hjp)
        have h1 := V_mono g.p g.f hi hb (g.p i hi)
        rw [if_pos rfl] at h1
        have h2 := ih j hj (by omega)
        rw [hjp] at h2
        omega
    omega
theorem cntU_min {l : List Ev} (g : Gd l) {i q : Nat} (hi : i < l.length) : ∀ j, j ≤ i + 1 → cntU l i q j = min (cntP l q j : Int) (V l i q)
  | 0, _ => by
    have := V_nonneg g.p g.f hi q
    show (0 : Int) = min ((0 : Nat) : Int) _
    omega
  | j + 1, hj => by
    have ih := cntU_min g hi (q := q) j (by omega)
    unfold cntU
    by_cases hq : prc l j = q
    · have h1 := V_rank g (i := j) (by omega)
      have h2 := V_iff g.p g.f (i := j) (j := i) (by omega) hi
      rw [hq] at h1 h2
      rw [cntP_step hq]
      by_cases hb : i = j ∨ (bB l i).testBit j = true
      · rw [if_pos ⟨hb, hq⟩, ih]
        have h3 := h2.2 (hb.imp (fun e => e.symm) id)
        omega
      · rw [if_neg (fun e => hb e.1), ih]
        have h3 : ¬ V l j q ≤ V l i q := fun e => hb ((h2.1 e).imp (fun e => e.symm) id)
        omega
    · rw [if_neg (fun e => hq e.2), ih]
      have : cntP l q (j + 1) = cntP l q j := by simp only [cntP]; rw [if_neg hq]
      rw [this]
theorem cntU_eq {l : List Ev} (g : Gd l) {i q : Nat} (hi : i < l.length) (hq : q < 5) : cntU l i q (i + 1) = V l i q := by
  rw [cntU_min g hi _ (Nat.le_refl _)]
  rcases V_from g.p g.f hi hq with h | ⟨k, hk, hkp, hki, hV⟩
  · omega
  · have hki' : k ≤ i := by
      rcases hki with rfl | h
      · exact Nat.le_refl _
      · have := bB_less g.p g.f hi h; omega
    have h1 := V_rank g hk
    rw [hkp] at h1
    have h2 := cntP_mono l q (i := k + 1) (j := i + 1) (by omega)
    rw [cntP_step hkp] at h2
    omega
theorem cntR_len (t : Tr) (i j : Nat) : (cntR t i j).length = t.1.toNat := by simp [cntR]
theorem cntR_at {t : Tr} {i j q : Nat} (h : q < t.1.toNat) : (cntR t i j).getD q 0 = cntU t.2.1 i q j := by
  unfold cntR
  rw [List.getD_eq_getElem?_getD, List.getElem?_map, List.getElem?_range h]; rfl
theorem cntR_in {t : Tr} {i j : Nat} (hb : i = j ∨ (bB t.2.1 i).testBit j = true) (hp : prc t.2.1 j < t.1.toNat) : (cntR t i j).set (prc t.2.1 j) ((cntR t i j).getD (prc t.2.1 j) 0 + 1) = cntR t i (j + 1) := by
  rw [cntR_at hp]
  refine List.ext_getElem (by simp [cntR]) fun q h1 h2 => ?_
  simp only [cntR, List.getElem_set, List.getElem_map, List.getElem_range, cntU]
  by_cases h : prc t.2.1 j = q
  · subst h; rw [if_pos rfl, if_pos ⟨hb, rfl⟩]
  · rw [if_neg h, if_neg (fun e => h e.2)]
theorem cntR_out {t : Tr} {i j : Nat} (hb : ¬ (i = j ∨ (bB t.2.1 i).testBit j = true)) : cntR t i j = cntR t i (j + 1) := by
  unfold cntR
  refine List.map_congr_left fun q _ => ?_
  rw [cntU, if_neg (fun e => hb e.1)]
theorem cntR_zero (t : Tr) (i : Nat) : cntR t i 0 = List.replicate t.1.toNat 0 := by
  unfold cntR cntU
  refine List.ext_getElem (by simp) fun q h1 h2 => by simp
theorem vec_len {l : List Ev} (g : Gd l) {i : Nat} (hi : i < l.length) : (vec l i).length = 5 := ((vst_ok l g.p g.f (i + 1) (by omega)).1 i (by omega)).1
theorem cntR_all {t : Tr} (h : chk t = 0) {i : Nat} (hi : i < t.2.1.length) : cntR t i (i + 1) = (vec t.2.1 i).take t.1.toNat := by
  have g := gd_of h
  have hpr := (good_of h).procs
  have hl := vec_len g hi
  refine List.ext_getElem (by rw [cntR_len, List.length_take, hl]; omega) fun q h1 h2 => ?_
  rw [cntR_len] at h1
  have a := cntR_at (t := t) (i := i) (j := i + 1) h1
  rw [cntU_eq g hi (by omega)] at a
  rw [List.getD_eq_getElem?_getD, List.getElem?_eq_getElem (by rw [cntR_len]; exact h1)] at a
  refine Eq.trans a ?_
  unfold V
  rw [List.getD_eq_getElem?_getD, List.getElem?_eq_getElem (by rw [hl]; omega), List.getElem_take]
  rfl
theorem vls_len (t : Tr) (i : Nat) : (vls t i).length = i := by simp [vls]
theorem vls_succ (t : Tr) (i : Nat) : vls t (i + 1) = vls t i ++ [(vec t.2.1 i).take t.1.toNat] := by unfold vls; rw [List.range_succ, List.map_append]; rfl
theorem vls_all {t : Tr} (h : chk t = 0) : vls t t.2.1.length = vecs t := by
  unfold vecs vls
  rw [if_pos h]
  refine List.ext_getElem (by simp [(vst_len t.2.1 t.2.1.length).1]) fun i h1 h2 => ?_
  have hi : i < t.2.1.length := by simpa using h1
  have := vec_keep t.2.1 hi
  rw [List.getD_eq_getElem?_getD, List.getElem?_eq_getElem (by rw [(vst_len t.2.1 t.2.1.length).1]; exact hi)] at this
  rw [List.getElem_map, List.getElem_map, List.getElem_range, ← this]
  rfl

theorem bef_bit {t : Tr} {i j : Nat} (hi : i < t.2.1.length) : bitB ((ints (befN t)).getD i 0) (j : Int) = (bB t.2.1 i).testBit j := by
  rw [bef_at hi, bitB_nat]
theorem bef_lenI (t : Tr) : (ints (befN t)).length = t.2.1.length := by unfold ints befN; rw [List.length_map, (bst_len t.2.1 t.2.1.length).1]
end Go.Proofs.YtbpoeigaoakdiaaDoor.H

/- Cuts: the document's answers are the program's: the facts. -/
namespace Go.Proofs.YtbpoeigaoakdiaaDoor.H
open Go.Vc

theorem ofU_cnt {l : List Ev} (g : Gd l) (p : Nat) : ∀ k, k ≤ l.length → (ofU l (p : Int) k).length = cntP l p k
  | 0, _ => rfl
  | k + 1, hk => by
    have ih := ofU_cnt g p k (by omega)
    have hn := g.n k (by omega)
    rw [ofU_succ, List.length_append, ih]
    have e : (l.getD k (0, 0, ())).1 = (p : Int) ↔ prc l k = p := by
      unfold prc
      unfold evA at hn
      omega
    simp only [cntP]
    by_cases h : prc l k = p
    · rw [if_pos (e.2 h), if_pos h]; rfl
    · rw [if_neg (fun x => h (e.1 x)), if_neg h]; rfl
theorem lenT_cnt {t : Tr} (h : chk t = 0) (p : Nat) : lenT t p = cntP t.2.1 p t.2.1.length := ofU_cnt (gd_of h) p _ (Nat.le_refl _)
theorem rank_at {t : Tr} (h : chk t = 0) {m : Nat} (hm : m < t.2.1.length) : (ofT t (prc t.2.1 m : Int)).getD (cntP t.2.1 (prc t.2.1 m) m) 0 = (m : Int) ∧ cntP t.2.1 (prc t.2.1 m) m < lenT t (prc t.2.1 m) := by
  have g := gd_of h
  have hc := ofU_cnt g (prc t.2.1 m) m (by omega)
  obtain ⟨r, e⟩ := ofU_add t.2.1 (prc t.2.1 m : Int) (t.2.1.length - (m + 1)) (m + 1)
  rw [show m + 1 + (t.2.1.length - (m + 1)) = t.2.1.length by omega, ofU_succ] at e
  have hn := g.n m hm
  rw [if_pos (by unfold prc; unfold evA at hn; omega), List.append_assoc] at e
  have e' : ofT t (prc t.2.1 m : Int) = ofU t.2.1 (prc t.2.1 m : Int) m ++ ([(m : Int)] ++ r) := e
  unfold lenT
  rw [e', ← hc]
  refine ⟨?_, by simp⟩
  rw [List.getD_eq_getElem?_getD, List.getElem?_append_right (Nat.le_refl _), Nat.sub_self]
  rfl
/-- which events a cut has -/
theorem in_iff {t : Tr} {c : List Int} (hc : cutE t c = 0) {m : Nat} (hm : m < t.2.1.length) : (setN t c).testBit m = true ↔ (cntP t.2.1 (prc t.2.1 m) m : Int) < c.getD (prc t.2.1 m) 0 := by
  obtain ⟨h, hl, hb⟩ := cut_ok hc
  have gg := good_of h
  obtain ⟨r1, r2⟩ := rank_at h hm
  have hev := gg.ev m hm
  have hpl : prc t.2.1 m < c.length := by unfold prc; omega
  rw [setN_bit]
  constructor
  · rintro ⟨p, hp, hx⟩
    have hx2 := (takeC_mem hx).2.2
    rw [Int.toNat_natCast] at hx2
    have hpe : p = prc t.2.1 m := by unfold prc; omega
    subst hpe
    obtain ⟨n, n1, n2, n3⟩ := takeC_iff.1 hx
    rcases Nat.lt_trichotomy n (cntP t.2.1 (prc t.2.1 m) m) with hlt | heq | hgt
    · have := ofT_mono (t := t) hlt r2
      omega
    · omega
    · have := ofT_mono (t := t) hgt n1
      omega
  · intro hlt
    exact ⟨prc t.2.1 m, hpl, takeC_iff.2 ⟨_, r2, by omega, r1.symm⟩⟩
theorem set_len {t : Tr} {c : List Int} {m : Nat} (h : (setN t c).testBit m = true) : m < t.2.1.length := by
  obtain ⟨p, _, hx⟩ := (setN_bit t c m).1 h
  have := (takeC_mem hx).2.1
  omega
theorem inC_iff {t : Tr} {c : List Int} (hc : cutE t c = 0) {m : Nat} (hm : m < t.2.1.length) : inC t c m = true ↔ (setN t c).testBit m = true := by
  rw [in_iff hc hm]
  unfold inC
  rw [decide_eq_true_eq, nth_cnt (gd_of (cut_ok hc).1) hm]
  rfl

/-! The events of a cut. -/
theorem setI_spec {t : Tr} {c : List Int} : ∀ m, ∃ s : Nat, setI t c m = (s : Int) ∧ s < 2 ^ m ∧ ∀ k, s.testBit k = true ↔ k < m ∧ inC t c k = true
  | 0 => ⟨0, rfl, by simp, fun k => by simp⟩
  | m + 1 => by
    obtain ⟨s, e, hs, hb⟩ := setI_spec (t := t) (c := c) m
    have hpw : 2 ^ m < 2 ^ (m + 1) := Nat.pow_lt_pow_right (by decide) (by omega)
    by_cases h : inC t c m = true
    · have hf : s.testBit m = false := by
        cases hh : s.testBit m with
        | false => rfl
        | true => have := ((hb m).1 hh).1; omega
      refine ⟨s ||| 2 ^ m, ?_, Nat.or_lt_two_pow (by omega) hpw, fun k => ?_⟩
      · rw [setI, if_pos h, e, or_pow_out hf, Int.natCast_add, Int.natCast_pow]; rfl
      · rw [bit_or2, hb]
        constructor
        · rintro (⟨h1, h2⟩ | h1)
          · exact ⟨by omega, h2⟩
          · subst h1; exact ⟨by omega, h⟩
        · rintro ⟨h1, h2⟩
          by_cases hk : k = m
          · exact .inr hk
          · exact .inl ⟨by omega, h2⟩
    · refine ⟨s, by rw [setI, if_neg h, e], by omega, fun k => ?_⟩
      rw [hb]
      constructor
      · rintro ⟨h1, h2⟩; exact ⟨by omega, h2⟩
      · rintro ⟨h1, h2⟩
        by_cases hk : k = m
        · subst hk; exact absurd h2 h
        · exact ⟨by omega, h2⟩
theorem setI_all {t : Tr} {c : List Int} (hc : cutE t c = 0) : setI t c t.2.1.length = (setN t c : Int) := by
  obtain ⟨s, e, _, hb⟩ := setI_spec (t := t) (c := c) t.2.1.length
  rw [e]
  have : s = setN t c := by
    refine Nat.eq_of_testBit_eq fun k => ?_
    have key : s.testBit k = true ↔ (setN t c).testBit k = true := by
      rw [hb]
      constructor
      · rintro ⟨h1, h2⟩; exact (inC_iff hc h1).1 h2
      · intro h1; exact ⟨set_len h1, (inC_iff hc (set_len h1)).2 h1⟩
    cases h1 : s.testBit k <;> cases h2 : (setN t c).testBit k <;> simp_all
  rw [this]
theorem whole_from {t : Tr} {c : List Int} (hc : cutE t c = 0) : wholeB t c = true ↔ ∀ m, m < t.2.1.length → fromB t (setN t c : Int) m = true := by
  obtain ⟨h, hl, _⟩ := cut_ok hc
  have gg := good_of h
  have hfb : ∀ m, m < t.2.1.length → (fromB t (setN t c : Int) m = true ↔ ((setN t c).testBit m = true → heard t.2.1 (setN t c) (m : Int) = true)) := by
    intro m hm
    unfold fromB
    rw [bitB_nat, heard_iff, Int.toNat_natCast, Bool.or_eq_true, Bool.or_eq_true, Bool.not_eq_true', decide_eq_true_eq]
    unfold evA
    by_cases hf : (t.2.1.getD m (0, 0, ())).2.1 < 0
    · constructor
      · intro _ _ h0; omega
      · intro _; exact .inr (.inl hf)
    · have e : ((t.2.1.getD m (0, 0, ())).2.1.toNat : Int) = (t.2.1.getD m (0, 0, ())).2.1 := by omega
      rw [← e, bitB_nat, Int.toNat_natCast, e]
      cases hb : (setN t c).testBit m with
      | false => simp
      | true =>
        constructor
        · rintro (h1 | h1 | h1) _ _
          · cases h1
          · omega
          · exact h1
        · intro h1; exact .inr (.inr (h1 rfl (by omega)))
  rw [whole_iff h]
  constructor
  · intro hf m hm
    rw [hfb m hm]
    intro hb
    obtain ⟨p, hp, hx⟩ := (setN_bit t c m).1 hb
    exact hf p hp _ hx
  · intro hf p hp y hy
    have hm := takeC_mem hy
    have e : ((y.toNat : Nat) : Int) = y := by omega
    have := (hfb y.toNat (by omega)).1 (hf y.toNat (by omega)) ((setN_bit t c y.toNat).2 ⟨p, hp, by rw [e]; exact hy⟩)
    rw [e] at this
    exact this

/-! The line: what is in it is in the cut, with all that happened before. -/
def dC (t : Tr) (i : Nat) : List Int := (vec t.2.1 i).take t.1.toNat
theorem dC_at {t : Tr} {i p : Nat} (h : p < t.1.toNat) : (dC t i).getD p 0 = V t.2.1 i p := by unfold dC V; exact getD_take h
theorem dC_cut {t : Tr} (h : chk t = 0) {i : Nat} (hi : i < t.2.1.length) : cutE t (dC t i) = 0 := by
  have g := gd_of h
  have hpr := (good_of h).procs
  have hlen : (dC t i).length = t.1.toNat := by unfold dC; rw [List.length_take, vec_len g hi]; omega
  refine cut_mk h (by rw [hlen]; omega) fun p hp => ?_
  rw [hlen] at hp
  rw [dC_at hp, ← cntU_eq g hi (by omega), cntU_min g hi _ (Nat.le_refl _)]
  have h1 := V_nonneg g.p g.f hi p
  have h2 := cntP_mono t.2.1 p (i := i + 1) (j := t.2.1.length) (by omega)
  have h3 := lenT_cnt h p
  unfold lenT at h3
  omega
theorem dC_set {t : Tr} (h : chk t = 0) {i k : Nat} (hi : i < t.2.1.length) (hk : k < t.2.1.length) : (setN t (dC t i)).testBit k = true ↔ (k = i ∨ (bB t.2.1 i).testBit k = true) := by
  have g := gd_of h
  have gg := good_of h
  have hpr := gg.procs
  have hev := gg.ev k hk
  rw [in_iff (dC_cut h hi) hk, dC_at (by unfold prc; omega), ← V_iff g.p g.f hk hi, V_rank g hk]
  omega
theorem lnB_iff {t : Tr} {c : List Int} {m : Nat} (hm : m < t.2.1.length) : lnB t c m = true ↔ (setN t c).testBit m = true ∧ ∀ k, (bB t.2.1 m).testBit k = true → (setN t c).testBit k = true := by
  unfold lnB
  rw [bitB_nat, bef_at hm, Bool.and_eq_true, subB_iff]
theorem line_set {t : Tr} {c l : List Int} (hl : lineP t c l) {m : Nat} (hm : m < t.2.1.length) : lnB t c m = true ↔ (setN t l).testBit m = true := by
  obtain ⟨⟨h1, h2, h3⟩, h4⟩ := hl
  obtain ⟨h, hll, hlb⟩ := cut_ok h1
  have g := gd_of h
  have gg := good_of h
  have hpr := gg.procs
  rw [lnB_iff hm]
  constructor
  · rintro ⟨a, b⟩
    have hd := dC_cut h hm
    have hdw : wholeP t (dC t m) := by
      refine ⟨hd, (whole_before h _ hd).2 fun i hi hb k hk => ?_⟩
      have hkl := bB_less g.p g.f hi hk
      rw [dC_set h hm hi] at hb
      rw [dC_set h hm (by omega)]
      rcases hb with rfl | hb
      · exact .inr hk
      · exact .inr (bB_trans g.p g.f hm hb hk)
    have hdl : (dC t m).length = t.1.toNat := by have := (cut_ok hd).2.1; omega
    have hcl : c.length = t.1.toNat := by have := h2.1; omega
    have hle : leC (dC t m) c := by
      refine ⟨by omega, fun p hp => ?_⟩
      rw [hdl] at hp
      rw [dC_at hp]
      have hcp : 0 ≤ c.getD p 0 := by have := h2.2 p (by omega); have := hlb p (by omega); omega
      rcases V_from g.p g.f hm (q := p) (by omega) with h0 | ⟨k, hk, hkp, hkm, hV⟩
      · omega
      · have hks : (setN t c).testBit k = true := by
          rcases hkm with rfl | hb
          · exact a
          · exact b k hb
        have hr := V_rank g hk
        rw [hkp] at hr
        obtain ⟨q, hq, hx⟩ := (setN_bit t c k).1 hks
        have hx2 := (takeC_mem hx).2.2
        rw [Int.toNat_natCast] at hx2
        have hqp : q = p := by rw [← hkp]; unfold prc; omega
        subst hqp
        obtain ⟨n, n1, n2, n3⟩ := takeC_iff.1 hx
        have r := rank_at h hk
        rw [hkp] at r
        rcases Nat.lt_trichotomy n (cntP t.2.1 q k) with hlt | heq | hgt
        · have := ofT_mono (t := t) hlt r.2; omega
        · omega
        · omega
    have hdl2 := h3 _ hdw hle
    exact setN_le hdl2 ((dC_set h hm hm).2 (.inl rfl))
  · intro hb
    exact ⟨setN_le h2 hb, fun k hk => setN_le h2 ((whole_before h l h1).1 h4 m hm hb k hk)⟩
theorem lnU_min {t : Tr} {c l : List Int} (hl : lineP t c l) {p : Nat} (hp : p < t.1.toNat) : ∀ m, m ≤ t.2.1.length → lnU t c p m = min (cntP t.2.1 p m : Int) (l.getD p 0)
  | 0, _ => by
    obtain ⟨h, hll, hlb⟩ := cut_ok hl.1.1
    have := hlb p (by omega)
    show (0 : Int) = min ((0 : Nat) : Int) _
    omega
  | m + 1, hm => by
    have ih := lnU_min hl hp m (by omega)
    have hs := line_set hl (m := m) (by omega)
    have hi := in_iff hl.1.1 (m := m) (by omega)
    unfold lnU
    by_cases hq : prc t.2.1 m = p
    · rw [hq] at hi
      rw [cntP_step hq]
      by_cases hb : lnB t c m = true
      · rw [if_pos ⟨hb, hq⟩, ih]
        have := hi.1 (hs.1 hb)
        omega
      · rw [if_neg (fun e => hb e.1), ih]
        have : ¬ ((cntP t.2.1 p m : Int) < l.getD p 0) := fun e => hb (hs.2 (hi.2 e))
        omega
    · rw [if_neg (fun e => hq e.2), ih]
      have : cntP t.2.1 p (m + 1) = cntP t.2.1 p m := by simp only [cntP]; rw [if_neg hq]
      rw [this]
theorem lnR_len (t : Tr) (c : List Int) (m : Nat) : (lnR t c m).length = t.1.toNat := by simp [lnR]
theorem lnR_at {t : Tr} {c : List Int} {m p : Nat} (h : p < t.1.toNat) : (lnR t c m).getD p 0 = lnU t c p m := by
  unfold lnR
  rw [List.getD_eq_getElem?_getD, List.getElem?_map, List.getElem?_range h]; rfl
theorem line_eq {t : Tr} {c l : List Int} (hl : lineP t c l) : l = lineR t c := by
  obtain ⟨h, hll, hlb⟩ := cut_ok hl.1.1
  refine List.ext_getElem (by unfold lineR; rw [lnR_len]; omega) fun p h1 h2 => ?_
  have a := lnU_min hl (p := p) (by omega) _ (Nat.le_refl _)
  have b := lnR_at (t := t) (c := c) (m := t.2.1.length) (p := p) (by omega)
  have d := hlb p h1
  have e := lenT_cnt h p
  unfold lenT at e
  have f : l.getD p 0 = l[p] := by rw [List.getD_eq_getElem?_getD, List.getElem?_eq_getElem h1]; rfl
  have g : (lineR t c).getD p 0 = (lineR t c)[p] := by rw [List.getD_eq_getElem?_getD, List.getElem?_eq_getElem h2]; rfl
  rw [← f, ← g]
  unfold lineR
  rw [b, a]
  omega
theorem lnR_in {t : Tr} {c : List Int} {m : Nat} (hb : lnB t c m = true) (hp : prc t.2.1 m < t.1.toNat) : (lnR t c m).set (prc t.2.1 m) ((lnR t c m).getD (prc t.2.1 m) 0 + 1) = lnR t c (m + 1) := by
  rw [lnR_at hp]
  refine List.ext_getElem (by simp [lnR]) fun q h1 h2 => ?_
  simp only [lnR, List.getElem_set, List.getElem_map, List.getElem_range, lnU]
  by_cases h : prc t.2.1 m = q
  · subst h; rw [if_pos rfl, if_pos ⟨hb, rfl⟩]
  · rw [if_neg h, if_neg (fun e => h e.2)]
theorem lnR_out {t : Tr} {c : List Int} {m : Nat} (hb : ¬ lnB t c m = true) : lnR t c m = lnR t c (m + 1) := by
  unfold lnR
  refine List.map_congr_left fun q _ => ?_
  rw [lnU, if_neg (fun e => hb e.1)]
theorem lnU_le (t : Tr) (c : List Int) (p : Nat) : ∀ m, 0 ≤ lnU t c p m ∧ lnU t c p m ≤ (m : Int)
  | 0 => ⟨Int.le_refl _, Int.le_refl _⟩
  | m + 1 => by
    have := lnU_le t c p m
    unfold lnU
    split <;> omega
/-- the products -/
theorem prodU_L (t : Tr) : ∀ d p : Nat, prodU t p * prodL t d p = prodU t (p + d)
  | 0, p => by rw [prodL, Nat.mul_one]; rfl
  | d + 1, p => by
    have ih := prodU_L t d (p + 1)
    rw [prodL, ← Nat.mul_assoc]
    rw [show p + (d + 1) = p + 1 + d by omega, ← ih]
    rfl
theorem prodU_le {t : Tr} (h : chk t = 0) : ∀ p : Nat, prodU t p ≤ 25 ^ p
  | 0 => Nat.le_refl _
  | p + 1 => by
    have := prodU_le h p
    have := lenT_le h p
    rw [prodU, Nat.pow_succ]
    exact Nat.mul_le_mul (by assumption) (by omega)
theorem sum_range_le (f : Nat → Nat) {a b : Nat} (h : a ≤ b) : ((List.range a).map f).sum ≤ ((List.range b).map f).sum := by
  induction b with
  | zero => rw [Nat.le_zero.1 h]; exact Nat.le_refl _
  | succ b ih =>
    by_cases hb : a = b + 1
    · rw [hb]; exact Nat.le_refl _
    · rw [List.range_succ, List.map_append, List.sum_append]
      have := ih (by omega)
      omega
theorem cutsU_succ (t : Tr) (c : List Int) (d k : Nat) : cutsU t c d (k + 1) = cutsU t c d k + cutsN t d (c ++ [((k : Nat) : Int)]) := by
  unfold cutsU
  rw [List.range_succ, List.map_append, List.sum_append]; simp
theorem cutsU_all (t : Tr) (c : List Int) (d : Nat) : cutsU t c d (lenT t c.length + 1) = cutsN t (d + 1) c := (cutsN_succ t d c).symm
theorem cutsN_le {t : Tr} (h : chk t = 0) (d : Nat) (c : List Int) : cutsN t d c ≤ 25 ^ d := by
  unfold cutsN
  refine Nat.le_trans (List.length_filter_le _ _) ?_
  rw [allL_len]
  exact prodL_le h d _
theorem cutsU_le {t : Tr} (h : chk t = 0) (c : List Int) (d : Nat) {k : Nat} (hk : k ≤ lenT t c.length + 1) : cutsU t c d k ≤ 25 ^ (d + 1) := by
  refine Nat.le_trans (sum_range_le _ hk) ?_
  rw [show ((List.range (lenT t c.length + 1)).map fun j => cutsN t d (c ++ [((j : Nat) : Int)])).sum = cutsU t c d (lenT t c.length + 1) from rfl, cutsU_all]
  exact cutsN_le h _ _
end Go.Proofs.YtbpoeigaoakdiaaDoor.H
