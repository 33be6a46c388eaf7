/- Own texts, merged: Bt, ZDef, ZV1, ZOk1, ZV2, ZOk2, ZM, ZC, ZV3, ZOk3, QDef, KDef, KV, KOk, GM2, GM3, KOk2, KM, YDef, XDef, KOk3, YM1. -/
import Derived.Test.YtbpoeigaoakdiaaDoorCCRowZ1
import Derived.Test.YtbpoeigaoakdiaaDoorVcQ
/- The iterator over the things of a set hands on the places of its bits, rising. -/
namespace Go.Proofs.YtbpoeigaoakdiaaDoor
open Go.RowKit Go.Shelf Go.Vc
attribute [local go_sem] Oper.semAt_some

theorem ctz_facts {r : Nat} (h0 : r ≠ 0) (h : r < 2 ^ 64) : Lib.ctz 64 r < 64 ∧ r.testBit (Lib.ctz 64 r) = true ∧ (∀ i, i < Lib.ctz 64 r → r.testBit i = false) ∧ ∀ i, (r &&& (r - 1)).testBit i = (r.testBit i && !decide (i = Lib.ctz 64 r)) := by
  have hc : Lib.ctz 64 r = Lib.ctzFrom 64 r := by unfold Lib.ctz; rw [if_neg h0]
  obtain ⟨m, hm, hlt⟩ := Lib.ctzFrom_spec 64 r (by omega) h
  rw [hc]
  generalize Lib.ctzFrom 64 r = t at *
  have hb : ∀ i, r.testBit i = (decide (t ≤ i) && (2 * m + 1).testBit (i - t)) := by
    intro i; rw [hm, Nat.testBit_two_pow_mul]
  have hpos : 0 < 2 ^ t := Nat.two_pow_pos t
  have hr1 : r - 1 = 2 ^ t * (2 * m) + (2 ^ t - 1) := by
    rw [hm, Nat.mul_add, Nat.mul_one]; omega
  have hb1 : ∀ i, (r - 1).testBit i = if i < t then (2 ^ t - 1).testBit i else (2 * m).testBit (i - t) := by
    intro i; rw [hr1, Nat.testBit_two_pow_mul_add _ (by omega)]
  refine ⟨hlt, ?_, fun i hi => ?_, fun i => ?_⟩
  · rw [hb]; simp
  · rw [hb]; simp; omega
  · rw [Nat.testBit_and, hb1, hb]
    by_cases h1 : i < t
    · rw [if_pos h1]
      have : decide (t ≤ i) = false := by simpa using h1
      rw [this]; simp
    · rw [if_neg h1]
      have : decide (t ≤ i) = true := by simpa using h1
      rw [this, Bool.true_and]
      by_cases h2 : i = t
      · subst h2; simp
      · obtain ⟨j, hj⟩ : ∃ j, i - t = j + 1 := ⟨i - t - 1, by omega⟩
        rw [hj, Nat.testBit_add_one, Nat.testBit_add_one, show (2 * m + 1) / 2 = m by omega, show 2 * m / 2 = m by omega]
        simp [h2]

def u64Of : Value → Nat
  | .int _ n => n.toNat
  | _ => 0
def bitsN (n : Nat) : List Nat := (List.range' 0 64).filter n.testBit

theorem filter_from (f : Nat → Bool) : ∀ (d p t : Nat), p + d = t → t < 64 → (∀ i, p ≤ i → i < t → f i = false) → f t = true → (List.range' p (64 - p)).filter f = t :: (List.range' (t + 1) (64 - (t + 1))).filter f := by
  intro d
  induction d with
  | zero =>
    intro p t ht h64 _ hft
    have : p = t := by omega
    subst this
    rw [show 64 - p = (64 - (p + 1)) + 1 by omega, List.range'_succ, List.filter_cons, if_pos hft]
  | succ d ih =>
    intro p t ht h64 hf hft
    rw [show 64 - p = (64 - (p + 1)) + 1 by omega, List.range'_succ, List.filter_cons, if_neg (by rw [hf p (Nat.le_refl _) (by omega)]; decide)]
    exact ih (p + 1) t (by omega) h64 (fun i h1 h2 => hf i (by omega) h2) hft

set_option maxRecDepth 100000 in
set_option maxHeartbeats 2000000 in
theorem bits1_in (F : Fence) (h45 : F.fn 68) (h46 : F.fn 69) (hro : F.round = none) (htz : ∀ (m x : Nat) (w : World), x < 18446744073709551616 → TabAt 2 Lib.deBruijn64tab w → CallsIn F m Tryd.prog 69 #[.int .u64 x] w fun e w' => e = .returned (.int .i64 (Lib.ctz 64 x)) ∧ w' = w) (n l : Nat) (hn : 1 ≤ n) (b : Nat) (o : Nat) (s : Int) (hs : inK .i64 s) (J Jx : Nat → World → Prop) (W : World)
    (hR : ∀ k W', J k W' → W'.cell? ⟨b, o, none⟩ = some (.int .i64 s) ∧ TabAt 2 Lib.deBruijn64tab W')
    (hY : ∀ m k x W1, ((bitsN (s % 18446744073709551616).toNat).map fun (i : Nat) => Value.int .i64 (i : Int))[k]? = some x → J k W1 →
      YieldAt F m Tryd.prog l #[x] W1 fun e W' => (e = .returned (.bool true) ∧ J (k + 1) W') ∨ (e = .returned (.bool false) ∧ Jx (k + 1) W')) (h0 : J 0 W) :
    CallsIn F n Tryd.prog 68 #[.func (.yield l) #[] #[], .pointer (some ⟨b, o, none⟩)] W fun e W' => (∃ v, e = .returned v) ∧ (J (bitsN (s % 18446744073709551616).toNat).length W' ∨ ∃ k, Jx k W') := by
  obtain ⟨N, hN⟩ : ∃ N, N = (s % 18446744073709551616).toNat := ⟨_, rfl⟩
  have hN64 : N < 18446744073709551616 := by omega
  have hw : IntKind.u64.wrap s = (N : Int) := by rw [IntKind.wrap_u64]; omega
  rw [← hN] at hY ⊢
  refine callsIn_of_wp Tryd.func68 rfl h45 ?_ hro
  simp only [Tryd.ntmps68, List.size_toArray, List.length_cons, List.length_nil, Nat.reduceAdd, Nat.reduceSub, Array.replicate_succ, Array.replicate_zero, List.push_toArray, List.append_toArray, List.nil_append, List.cons_append]
  have hc0 := (hR 0 W h0).1
  gi_wp2
  have hmx : max (s % 18446744073709551616) 0 = (N : Int) := by omega
  simp only [hmx]
  gi_loopw [3] (fun p wr => ∃ (r q k : Nat), p = .int .u64 (r : Int) ∧ r < 18446744073709551616 ∧ q ≤ 64 ∧ (∀ i, r.testBit i = (decide (q ≤ i) && N.testBit i)) ∧ (bitsN N).drop k = (List.range' q (64 - q)).filter N.testBit ∧ k ≤ (bitsN N).length ∧ J k wr)
    (fun p _ => u64Of p)
  case atStart =>
    exact ⟨N, 0, 0, rfl, hN64, by omega, fun i => by simp, rfl, by omega, h0⟩
  case round =>
    obtain ⟨r, q, k, rfl, hr, hq, hb, hd, hk, hJ⟩ := hrel
    obtain ⟨hc, hT⟩ := hR k wr hJ
    by_cases h0 : r = 0
    · subst h0
      have hkl : k = (bitsN N).length := by
        have : (List.range' q (64 - q)).filter N.testBit = [] := by
          rw [List.filter_eq_nil_iff]
          intro i hi
          have hqi := (List.mem_range'_1.1 hi).1
          have := hb i
          simp only [Nat.zero_testBit, decide_eq_true hqi, Bool.true_and] at this
          rw [← this]; decide
        rw [this, List.drop_eq_nil_iff] at hd
        omega
      subst hkl
      gi_wp2
      go_end0
      exact ⟨⟨_, rfl⟩, .inl hJ⟩
    · obtain ⟨f1, f2, f3, f4⟩ := ctz_facts h0 hr
      obtain ⟨t, ht⟩ : ∃ t, t = Lib.ctz 64 r := ⟨_, rfl⟩
      rw [← ht] at f1 f2 f3 f4
      have hqt : q ≤ t := by
        have := hb t; rw [f2] at this
        simp only [Bool.true_eq, Bool.and_eq_true, decide_eq_true_eq] at this; exact this.1
      have hNt : N.testBit t = true := by
        have := hb t; rw [f2] at this
        simp only [Bool.true_eq, Bool.and_eq_true, decide_eq_true_eq] at this; exact this.2
      have hd2 := filter_from N.testBit (t - q) q t (by omega) f1 (fun i h1 h2 => by
        have := hb i; rw [f3 i h2] at this
        simpa [h1] using this.symm) hNt
      rw [hd2] at hd
      have hkl : k < (bitsN N).length := by
        rcases Nat.lt_or_ge k (bitsN N).length with h | h
        · exact h
        · rw [List.drop_of_length_le h] at hd; cases hd
      have hxk : (bitsN N)[k]? = some t := by
        rw [List.drop_eq_getElem_cons hkl] at hd
        injection hd with hd1 _
        rw [List.getElem?_eq_getElem hkl, hd1]
      have hdk : (bitsN N).drop (k + 1) = (List.range' (t + 1) (64 - (t + 1))).filter N.testBit := by
        rw [List.drop_eq_getElem_cons hkl] at hd
        injection hd
      obtain ⟨fn, tmps, assign, body, hy, hRd⟩ := hY (n - 1) k (.int .i64 (t : Int)) wr (by rw [List.getElem?_map, hxk]; rfl) hJ
      have hne : ((r : Int) == 0) = false := by simp; omega
      have hnext : ∀ W', J (k + 1) W' → ∃ (r' q' k' : Nat), (Value.int .u64 ((r &&& (r - 1) : Nat) : Int) : Value) = .int .u64 (r' : Int) ∧ r' < 18446744073709551616 ∧ q' ≤ 64 ∧ (∀ i, r'.testBit i = (decide (q' ≤ i) && N.testBit i)) ∧
          (bitsN N).drop k' = (List.range' q' (64 - q')).filter N.testBit ∧ k' ≤ (bitsN N).length ∧ J k' W' := by
        intro W' hJ'
        refine ⟨r &&& (r - 1), t + 1, k + 1, rfl, Nat.lt_of_le_of_lt Nat.and_le_left hr, f1, fun i => ?_, hdk, hkl, hJ'⟩
        rw [f4, hb]
        by_cases h1 : i = t
        · have hni : decide (t + 1 ≤ i) = false := decide_eq_false (by omega)
          rw [hni, decide_eq_true h1]; simp
        · by_cases h2 : q ≤ i
          · by_cases h3 : t + 1 ≤ i
            · simp [h1, h2, h3]
            · have := hb i; rw [f3 i (by omega)] at this
              simp only [h2, decide_true, Bool.true_and] at this
              rw [← this]; simp
          · have h3 : ¬ t + 1 ≤ i := by omega
            simp [h2, h3]
      have hmeas : u64Of (.int .u64 ((r &&& (r - 1) : Nat) : Int)) < r := by
        show ((r &&& (r - 1) : Nat) : Int).toNat < r
        rw [Int.toNat_natCast]
        have : r &&& (r - 1) ≤ r - 1 := Nat.and_le_right
        omega
      have hand : ∀ (x : Int), x = (r : Int) - 1 → bits .and .u64 (r : Int) x = ((r &&& (r - 1) : Nat) : Int) := by
        intro x hx
        rw [hx, show (r : Int) - 1 = ((r - 1 : Nat) : Int) by omega, bits_and_u64_nat r _ hr (by omega)]
      have htz' := htz
      clear hb hd hdk hd2 f1 f2 f3 f4 hNt hqt hxk hkl hY hR hmx hw hN hN64 hq hk
      subst ht
      gi_wp2_with (gi_at_call 69; refine (htz _ r _ hr hT).mono ?_; rintro e w' ⟨rfl, rfl⟩)
      refine hRd.mono ?_
      rintro e W' (⟨rfl, hJ'⟩ | ⟨rfl, hJx'⟩)
      · have hsub : IntKind.u64.wrap ((r : Int) - 1) = (r : Int) - 1 := by rw [IntKind.wrap_u64]; omega
        have hand' := hand _ rfl
        gi_wp2
        exact ⟨hnext _ hJ', by show _ < ((r : Int)).toNat; rw [Int.toNat_natCast]; exact hmeas⟩
      · gi_wp2
        refine bodyPost_ret (results_none rfl _ _ _) rfl ?_
        exact ⟨⟨_, rfl⟩, .inr ⟨_, hJx'⟩⟩

abbrev tabD : List Int := [0, 1, 56, 2, 57, 49, 28, 3, 61, 58, 42, 50, 38, 29, 17, 4, 62, 47, 59, 36, 45, 43, 51, 22, 53, 39, 33, 30, 24, 18, 12, 5,
  63, 55, 48, 27, 60, 41, 37, 16, 46, 35, 44, 21, 52, 32, 23, 11, 54, 26, 40, 15, 34, 20, 31, 10, 25, 14, 19, 9, 13, 8, 7, 6]
/-- the library's table -/
def glT : List (Nat × Dat) := [(2, ⟨.ar 64 (.int .u8), tabD⟩)]

theorem tab_of {w : World} {ro : Nat → Prop} (h : GlOk glT w ro) : TabAt 2 Lib.deBruijn64tab w := by
  obtain ⟨_, us, h1, hn, css, hcs, hok⟩ := h 2 _ (List.mem_singleton.2 rfl)
  have hlen : css.length = 64 := hok.1
  have hflat : ∀ (xs : List Int) (css : List (List Value)), css.length = xs.length → (∀ (i : Nat) x u, xs[i]? = some x → css[i]? = some u → u = [Value.int .u8 x]) → css.flatten = xs.map (Value.int .u8) := by
    intro xs
    induction xs with
    | nil => intro css h _; cases css with
      | nil => rfl
      | cons => cases h
    | cons x r ih =>
      intro css h hx
      cases css with
      | nil => cases h
      | cons c cs =>
        rw [List.flatten_cons, hx 0 x c rfl rfl, ih cs (by simpa using h) (fun i x u h1 h2 => hx (i + 1) x u (by simpa using h1) (by simpa using h2))]
        rfl
  have hus : us = tabD.map (Value.int .u8) := by
    rw [hcs]
    exact hflat tabD css hok.1 fun i x u h1 h2 => (hok.2 i x u h1 h2).2.1
  intro j hj
  apply h1
  rw [hus, List.getElem?_map]
  have hj' : j < 64 := hj
  have : ∀ j : Fin 64, tabD[j.1]? = some ((Lib.deBruijn64tab.getD j.1 0 : Nat) : Int) := by decide
  rw [this ⟨j, hj'⟩]; rfl

/-- what the iterator over the things of a set hands on -/
def bitsOf (s : Int) : List Int := (bitsN (s % 18446744073709551616).toNat).map fun (i : Nat) => (i : Int)
def cBits : ItC := ⟨.pr (.ptr (.int .i64)) .un, .int .i64, fun x => match x.1 with
  | some s => some (bitsOf s)
  | none => none⟩

theorem itBits : ItOk Tryd.prog glT 68 cBits := by
  refine ⟨⟨_, Tryd.func68, rfl, rfl⟩, fun y xs hy => ?_⟩
  obtain ⟨y1, y2⟩ := y
  cases y1 with
  | none => cases hy
  | some s =>
    have hy : some (bitsOf s) = some xs := hy
    injection hy with hy; subst hy
    refine ⟨fun x hx w ro => ?_, fun caps n l J Jx W hJ hJx hG hY h0 => ?_⟩
    · unfold bitsOf at hx
      obtain ⟨i, hi, rfl⟩ := List.mem_map.1 hx
      have := (List.mem_range'_1.1 (List.mem_filter.1 hi).1).2
      exact ⟨rfl, inK_i64.2 ⟨by omega, by omega⟩⟩
    · have hR0 := (hG 0 W h0).2
      obtain ⟨c1, c2, hcs, ⟨ad, us, hc1, hsp, hblk, hcell, hus, hin⟩, hc2⟩ := hR0
      have hc2' : c2 = [] := hc2
      have hcaps : caps = #[.pointer (some ad)] := by apply Array.toList_inj.1; rw [hcs, hc1, hc2']; rfl
      subst hcaps
      obtain ⟨b, o, sp⟩ := ad
      have hsp' : sp = none := hsp
      subst hsp'
      have hmap : (bitsOf s).map (fun x => (Ty.int .i64).mk ((Ty.int .i64).cv x)) = (bitsN (s % 18446744073709551616).toNat).map fun (i : Nat) => Value.int .i64 (i : Int) := by
        unfold bitsOf; rw [List.map_map]; rfl
      have hlen : ((bitsOf s).map (fun x => (Ty.int .i64).mk ((Ty.int .i64).cv x))).length = (bitsN (s % 18446744073709551616).toNat).length := by rw [hmap, List.length_map]
      have hmap' : (bitsOf s).map (fun x => cBits.e.mk (cBits.e.cv x)) = (bitsN (s % 18446744073709551616).toNat).map fun (i : Nat) => Value.int .i64 (i : Int) := hmap
      have hlen' : ((bitsOf s).map (fun x => cBits.e.mk (cBits.e.cv x))).length = (bitsN (s % 18446744073709551616).toNat).length := hlen
      rw [hlen']
      rw [hmap'] at hY
      have key := bits1_in (FW none) trivial trivial rfl (fun m x w hx hT => callsIn_wide.2 (tz x hx w fun _ => hT)) (n + 1) l (by omega) b o s hin J Jx W (fun k W' hk => ?_) hY h0
      · exact callsIn_FW.2 (callsIn_FW.1 key)
      · obtain ⟨g1, g2⟩ := hG k W' hk
        refine ⟨?_, tab_of g1⟩
        obtain ⟨c1, c2, hcs, ⟨ad, us, hc1, _, _, hcell, hus, _⟩, hc2⟩ := g2
        rw [hc1] at hcs
        have hc2' : c2 = [] := hc2
        rw [hc2'] at hcs
        injection hcs with hcs _
        injection hcs with hcs; injection hcs with hcs
        subst hcs
        have := hcell 0 (.int .i64 s) (by rw [hus]; rfl)
        simpa [addr_add] using this
end Go.Proofs.YtbpoeigaoakdiaaDoor

/- Cuts: what the functions answer. -/
namespace Go.Proofs.YtbpoeigaoakdiaaDoor.H
open Go.Vc
abbrev tF : Ty := .fn 68 (.pr (.ptr I) .un)
def Ez : Env := { tys := [(3, I), (4, .bool), (5, .int .u8), (22, .sl tEv), (24, tTr), (28, tErr), (30, .sl I), (70, tEv), (74, .ar 5 I), (98, tF), (61, .sl (.sl I))], errT := 71, eqs := [], els := [(22, 70), (30, 3), (61, 30)] }
theorem Ez_ok : EnvOk Tryd.prog Ez := EnvOk.of_list (by kernel_rfl) (by kernel_rfl) (by kernel_rfl)
/-- of each process its events -/
def rowsT (t : Tr) (k : Nat) : List (List Int) := (List.range k).map fun (p : Nat) => ofT t (p : Int)
/-- is each number within its row? -/
def cutOk (t : Tr) (c : List Int) : Bool := (List.range c.length).all fun p => inB (c.getD p 0) 0 ((ofT t (p : Int)).length : Int)
def cutE (t : Tr) (c : List Int) : Int := if chk t = 0 then (if (c.length : Int) = t.1 then (if cutOk t c = true then 0 else 1) else 3) else chk t
def cOfs : Ctr := cdet [tTr, .sl I] (fun _ _ => True) (fun t c => [⟨.sl (.sl I), if cutE t c = 0 then rowsT t t.1.toNat else []⟩, ⟨tErr, cutE t c⟩])
def anOfs (t : Tr) (c : List Int) : Ann :=
  [joinAll, loopAt 3 Nat [(6, 30, Ty.sl I)] (fun st i => { St.at (St.only st [0, 1, 2, 4, 5, 6, 14]) [(15, .d I (i : Int))] with ob := st.ob.set 1 (.row 30 (.sl I) (rowsT t i)) }) (fun _ i => ((i : Int) ≤ t.1 ∨ i = 0) ∧ (0 < t.1 → chk t = 0 ∨ i = 0)) (fun i => t.1.toNat - i),
   loopAt 16 Nat [] (fun st i => St.at (St.only st [0, 1, 2, 4, 5, 6, 43, 44]) [(45, .d I (i : Int))]) (fun _ i => i ≤ c.length ∧ chk t = 0 ∧ (c.length : Int) = t.1 ∧ ∀ p, p < i → inB (c.getD p 0) 0 ((ofT t (p : Int)).length : Int) = true) (fun i => c.length - i)]
/-- a set and some places -/
def orB (s : Nat) (l : List Int) : Nat := l.foldl (fun a i => a ||| 2 ^ i.toNat) s
/-- the first ones of a process's events that a cut has -/
def takeC (t : Tr) (c : List Int) (p : Nat) : List Int := (ofT t (p : Int)).take (c.getD p 0).toNat
def setK (t : Tr) (c : List Int) (k : Nat) : Nat := (List.range k).foldl (fun s p => orB s (takeC t c p)) 0
def setN (t : Tr) (c : List Int) : Nat := setK t c c.length
def setE (t : Tr) (c : List Int) : Int := if cutE t c = 0 then (setN t c : Int) else 0
def cEvents : Ctr := cdet [tTr, .sl I] (fun _ _ => True) (fun t c => [⟨I, setE t c⟩, ⟨tErr, cutE t c⟩])
def anEvents (t : Tr) (c : List Int) : Ann :=
  [joinAll, loopAt 6 Nat [] (fun st i => St.at (St.only st [0, 1, 2, 4, 5, 6, 22, 23]) [(24, .d I (i : Int)), (8, .d I (setK t c i : Int))]) (fun _ i => i ≤ c.length ∧ cutE t c = 0) (fun i => c.length - i),
   loopAt 9 Nat [] (fun st i => St.at (St.only st [0, 1, 2, 4, 5, 6, 22, 23, 24, 34, 35]) [(36, .d I (i : Int)), (8, .d I (orB (setK t c (st.i 24).toNat) ((takeC t c (st.i 24).toNat).take i) : Int))])
     (fun st i => i ≤ (takeC t c (st.i 24).toNat).length ∧ True) (fun i => c.length + t.2.1.length - i)]
def cHas : Ctr := cdet [I, I] (fun (s i : Int) => (0 ≤ s ∧ 0 ≤ i ∧ i < 64) ∧ True) (fun (s i : Int) => [⟨.bool, s.toNat.testBit i.toNat⟩])
def cBitsF : Ctr := cdet [I] (fun _ => True) (fun (s : Int) => [⟨tF, some (some s, ())⟩])
/-- is a set of events closed: does it hold of what each of its events heard? -/
def heard (l : List Ev) (N : Nat) (i : Int) : Bool := decide ((l.getD i.toNat (0, 0, ())).2.1 < 0) || N.testBit (l.getD i.toNat (0, 0, ())).2.1.toNat
def wholeB (t : Tr) (c : List Int) : Bool := (bitsOf (setN t c : Int)).all (heard t.2.1 (setN t c))
def cIs : Ctr := cdet [tTr, .sl I] (fun _ _ => True) (fun t c => [⟨.bool, if cutE t c = 0 then wholeB t c else false⟩, ⟨tErr, cutE t c⟩])
def anIs (t : Tr) (c : List Int) : Ann :=
  [joinAll, rangeAt 6 I (List Int) id (fun st _ => St.only st [2, 4, 5, 6, 20]) (fun _ l => cutE t c = 0 ∧ ∀ y ∈ l, heard t.2.1 (setN t c) y = true)]
def anBits : Ann := [freezeAt 1 [1]]
def wholeP (t : Tr) (c : List Int) : Prop := cutE t c = 0 ∧ wholeB t c = true
/-- is one cut in the other one? -/
def leC (c d : List Int) : Prop := c.length = d.length ∧ ∀ p, p < c.length → c.getD p 0 ≤ d.getD p 0
/-- what the line in a cut is, as long as it is sought: in the cut, and no whole cut in it goes beyond -/
def lnP (t : Tr) (c l : List Int) : Prop := cutE t l = 0 ∧ leC l c ∧ ∀ d, wholeP t d → leC d c → leC d l
def lineP (t : Tr) (c l : List Int) : Prop := lnP t c l ∧ wholeB t l = true
def cLine : Ctr := cgen [tTr, .sl I] fun t c (k : List Dat → Prop) => ∀ l : List Int, (cutE t c = 0 → lineP t c l) → (cutE t c ≠ 0 → l = []) → k [⟨.sl I, l⟩, ⟨tErr, cutE t c⟩]
def sumC (l : List Int) : Nat := (l.map Int.toNat).sum
def rowOf (st : St) : Option (List Int) :=
  match st.ob.getD 1 .dead with
  | .row _ (.int .i64) l => some l
  | _ => none
/-- of the first processes all heard is in the set -/
def fineP (t : Tr) (l : List Int) (i : Nat) : Prop := ∀ p, p < i → ∀ y ∈ takeC t l p, heard t.2.1 (setN t l) y = true
def inLine (t : Tr) (c l0 : List Int) (x : Nat × Bool × List Int) : Prop :=
  x.1 ≤ c.length ∧ lnP t c x.2.2 ∧ leC x.2.2 l0 ∧ (x.2.1 = false → x.2.2 = l0 ∧ fineP t l0 x.1) ∧ (x.2.1 = true → sumC x.2.2 < sumC l0)
def inRow (t : Tr) (N : Nat) (l : List Int) (p n : Nat) : Prop := n ≤ (takeC t l p).length ∧ ∀ y ∈ (takeC t l p).take n, heard t.2.1 N y = true
def anLine (t : Tr) (c : List Int) : Ann :=
  [joinAll,
   loopAt 5 (List Int) [] (fun st l => { St.only st [0, 1, 2, 4, 5, 6, 8] with ob := st.ob.set 1 (.row 3 I l) }) (fun _ l => lnP t c l ∧ cutE t c = 0) sumC,
   loopAt 10 (Nat × Bool × List Int) [] (fun st x => { St.at (St.only st [0, 1, 2, 4, 5, 6, 8, 9, 37]) [(38, .d I (x.1 : Int)), (11, .d .bool x.2.1)] with ob := st.ob.set 1 (.row 3 I x.2.2) })
     (fun st x => match rowOf st with
       | some l0 => inLine t c l0 x
       | none => False) (fun x => c.length - x.1),
   loopAt 13 Nat [] (fun st n => St.at (St.only st [0, 1, 2, 4, 5, 6, 8, 9, 11, 12, 37, 38, 49, 50]) [(51, .d I (n : Int))])
     (fun st n => match rowOf st with
       | some l => inRow t (st.i 9).toNat l (st.i 38).toNat n
       | none => False) (fun n => c.length + t.2.1.length - n)]
end Go.Proofs.YtbpoeigaoakdiaaDoor.H

/- What the functions of this seat have to satisfy, by program: each verification condition in plain words. -/
namespace Go.Proofs.YtbpoeigaoakdiaaDoor
open Go.Vc H
set_option linter.unusedVariables false
theorem vcOfs (t : Tr) (c : List Int) (k : List Dat → Prop) : vcF ⟨Ez, [(10, cCheck), (44, cWithin), (15, cOf)], glT, [], []⟩ (anOfs t c) (Tryd.f52.body.getD .skip) Tryd.f52.ntmps [(.tmp 4, .sl (.sl I)), (.tmp 5, tErr)] [⟨tTr, t⟩, ⟨.sl I, c⟩] k = (
  (∃ (x : Nat), (((↑x : Int) ≤ t.fst ∨ x = (0 : Nat)) ∧ ((0 : Int) < t.fst → chk t = (0 : Int) ∨ x = (0 : Nat))) ∧ (t = t ∧ c = c ∧ ([] : List Nat) = [] ∧ True ∧ (0 : Int) = (0 : Int) ∧ True ∧ t.fst = t.fst ∧ (0 : Int) = (↑x : Int) ∧ True) ∧ (((24 : Nat) = (24 : Nat) ∧ t = t) ∧ ((30 : Nat) = (30 : Nat) ∧ [] = rowsT t x) ∧ True) ∧ tabD = tabD ∧ True) ∧ ∀ (x : Nat), ((↑x : Int) ≤ t.fst ∨ x = (0 : Nat)) ∧ ((0 : Int) < t.fst → chk t = (0 : Int) ∨ x = (0 : Nat)) → (decide ((↑x : Int) < t.fst) = true → True ∧ ((!decide (ofE t (↑x : Int) = (0 : Int))) = true → k [Dat.mk (I).sl.sl [], Dat.mk (Ty.err (71 : Nat)) (ofE t (↑x : Int))]) ∧ ((!decide (ofE t (↑x : Int) = (0 : Int))) = false → (rowsT t x).length + ((List.replicate (1 : Nat) []).set (0 : Nat) (if ofE t (↑x : Int) = (0 : Int) then ofT t (↑x : Int) else [])).length ≤ (1000000000 : Nat) ∧ inK IntKind.i64 ((↑x : Int) + (1 : Int)) ∧ ∃ (x_1 : Nat), (((↑x_1 : Int) ≤ t.fst ∨ x_1 = (0 : Nat)) ∧ ((0 : Int) < t.fst → chk t = (0 : Int) ∨ x_1 = (0 : Nat))) ∧ t.fst.toNat - x_1 < t.fst.toNat - x ∧ (t = t ∧ c = c ∧ ([] : List Nat) = [] ∧ True ∧ (0 : Int) = (0 : Int) ∧ True ∧ t.fst = t.fst ∧ (↑x : Int) + (1 : Int) = (↑x_1 : Int) ∧ True) ∧ (((24 : Nat) = (24 : Nat) ∧ t = t) ∧ ((30 : Nat) = (30 : Nat) ∧ (rowsT t x).append ((List.replicate (1 : Nat) []).set (0 : Nat) (if ofE t (↑x : Int) = (0 : Int) then ofT t (↑x : Int) else [])) = rowsT t x_1) ∧ True) ∧ tabD = tabD ∧ True)) ∧ (decide ((↑x : Int) < t.fst) = false → True ∧ ((!decide (chk t = (0 : Int))) = true → k [Dat.mk (I).sl.sl [], Dat.mk (Ty.err (71 : Nat)) (chk t)]) ∧ ((!decide (chk t = (0 : Int))) = false → ((!decide ((↑c.length : Int) = t.fst)) = true → (3 : Int) ≠ (0 : Int) ∧ k [Dat.mk (I).sl.sl [], Dat.mk (Ty.err (71 : Nat)) (3 : Int)]) ∧ ((!decide ((↑c.length : Int) = t.fst)) = false → (∃ (x_1 : Nat), (x_1 ≤ c.length ∧ chk t = (0 : Int) ∧ (↑c.length : Int) = t.fst ∧ ∀ (p : Nat), p < x_1 → inB (c.getD p (0 : Int)) (0 : Int) (↑(ofT t (↑p : Int)).length : Int) = true) ∧ (t = t ∧ c = c ∧ ([] : List Nat) = [] ∧ True ∧ (0 : Int) = (0 : Int) ∧ True ∧ c = c ∧ (↑c.length : Int) = (↑c.length : Int) ∧ (0 : Int) = (↑x_1 : Int) ∧ True) ∧ (((24 : Nat) = (24 : Nat) ∧ t = t) ∧ ((30 : Nat) = (30 : Nat) ∧ rowsT t x = rowsT t x) ∧ True) ∧ tabD = tabD ∧ True) ∧ ∀ (x_1 : Nat), (x_1 ≤ c.length ∧ chk t = (0 : Int) ∧ (↑c.length : Int) = t.fst ∧ ∀ (p : Nat), p < x_1 → inB (c.getD p (0 : Int)) (0 : Int) (↑(ofT t (↑p : Int)).length : Int) = true) → (decide ((↑x_1 : Int) < (↑c.length : Int)) = true → (0 : Int) ≤ (↑x_1 : Int) ∧ (↑x_1 : Int) < (↑c.length : Int) ∧ (0 : Int) ≤ (↑x_1 : Int) ∧ (↑x_1 : Int) < (↑(rowsT t x).length : Int) ∧ True ∧ ((!inB (c.getD (↑x_1 : Int).toNat (0 : Int)) (0 : Int) (↑((rowsT t x).getD (↑x_1 : Int).toNat []).length : Int)) = true → (1 : Int) ≠ (0 : Int) ∧ k [Dat.mk (I).sl.sl [], Dat.mk (Ty.err (71 : Nat)) (1 : Int)]) ∧ ((!inB (c.getD (↑x_1 : Int).toNat (0 : Int)) (0 : Int) (↑((rowsT t x).getD (↑x_1 : Int).toNat []).length : Int)) = false → inK IntKind.i64 ((↑x_1 : Int) + (1 : Int)) ∧ ∃ (x_2 : Nat), (x_2 ≤ c.length ∧ chk t = (0 : Int) ∧ (↑c.length : Int) = t.fst ∧ ∀ (p : Nat), p < x_2 → inB (c.getD p (0 : Int)) (0 : Int) (↑(ofT t (↑p : Int)).length : Int) = true) ∧ c.length - x_2 < c.length - x_1 ∧ (t = t ∧ c = c ∧ ([] : List Nat) = [] ∧ True ∧ (0 : Int) = (0 : Int) ∧ True ∧ c = c ∧ (↑c.length : Int) = (↑c.length : Int) ∧ (↑x_1 : Int) + (1 : Int) = (↑x_2 : Int) ∧ True) ∧ (((24 : Nat) = (24 : Nat) ∧ t = t) ∧ ((30 : Nat) = (30 : Nat) ∧ rowsT t x = rowsT t x) ∧ True) ∧ tabD = tabD ∧ True)) ∧ (decide ((↑x_1 : Int) < (↑c.length : Int)) = false → k [Dat.mk (I).sl.sl (rowsT t x), Dat.mk (Ty.err (71 : Nat)) (0 : Int)]))))) := by kernel_rfl
end Go.Proofs.YtbpoeigaoakdiaaDoor

/- Cuts: of each process its events. -/
namespace Go.Proofs.YtbpoeigaoakdiaaDoor.H
open Go.Vc
theorem rowsT_succ (t : Tr) (k : Nat) : rowsT t (k + 1) = rowsT t k ++ [ofT t (k : Int)] := by
  unfold rowsT
  rw [List.range_succ, List.map_append]; rfl
theorem rowsT_len (t : Tr) (k : Nat) : (rowsT t k).length = k := by simp [rowsT]
theorem rowsT_getD (t : Tr) {k p : Nat} (h : p < k) : (rowsT t k).getD p [] = ofT t (p : Int) := by
  unfold rowsT
  rw [List.getD_eq_getElem?_getD, List.getElem?_map, List.getElem?_range h]; rfl

theorem ofE_of {t : Tr} {x : Nat} (hx : (x : Int) < t.1) : ofE t (x : Int) = chk t := by
  unfold ofE
  by_cases h : chk t = 0
  · rw [if_pos h, if_pos (by unfold inB; simp; omega), h]
  · rw [if_neg h]

theorem ofs_vc (t : Tr) (c : List Int) (k : List Dat → Prop) (ht : inK .i64 t.1) (hc : c.length ≤ maxLen) (hk : k [⟨.sl (.sl I), if cutE t c = 0 then rowsT t t.1.toNat else []⟩, ⟨tErr, cutE t c⟩]) :
    vcF ⟨Ez, [(10, cCheck), (44, cWithin), (15, cOf)], glT, [], []⟩ (anOfs t c) (Tryd.f52.body.getD .skip) Tryd.f52.ntmps [(.tmp 4, .sl (.sl I)), (.tmp 5, tErr)] [⟨tTr, t⟩, ⟨.sl I, c⟩] k := by
  rw [vcOfs]
  have hml : maxLen ≤ 9223372036854775807 := by decide
  simp only [decide_eq_true_eq, decide_eq_false_iff_not, and_true, true_and, Bool.not_eq_true', Bool.not_eq_false', Int.toNat_natCast]
  have hb := inK_i64.1 ht
  have bad : chk t ≠ 0 → k [⟨.sl (.sl I), []⟩, ⟨tErr, chk t⟩] := by
    intro h
    have e : cutE t c = chk t := by unfold cutE; rw [if_neg h]
    rw [e, if_neg h] at hk; exact hk
  refine ⟨⟨0, ⟨.inr rfl, fun _ => .inr rfl⟩, rfl, rfl⟩, fun x ⟨hx, hx2⟩ => ⟨fun hlt => ?_, fun hge => ⟨bad, fun h => ⟨fun hne => ⟨by decide, ?_⟩, fun heq => ?_⟩⟩⟩⟩
  · rw [ofE_of hlt]
    refine ⟨bad, fun h => ?_⟩
    have hpr := (good_of h).procs
    rw [rowsT_len]
    refine ⟨by simp only [List.replicate, List.set, List.length_cons, List.length_nil]; omega, inK_i64.2 (by omega), x + 1, ⟨by omega, fun _ => .inl h⟩, by omega, rfl, ?_⟩
    rw [if_pos h, rowsT_succ]; rfl
  · have e : cutE t c = 3 := by unfold cutE; rw [if_pos h, if_neg hne]
    rw [e] at hk; exact hk
  · have hpr := (good_of h).procs
    have hx3 : x = t.1.toNat := by omega
    subst hx3
    simp only [rowsT_len]
    refine ⟨⟨0, ⟨by omega, h, heq, fun p hp => by omega⟩, rfl⟩, fun y ⟨hy, _, _, hall⟩ => ⟨fun hlt => ?_, fun hge2 => ?_⟩⟩
    · have hyt : y < t.1.toNat := by omega
      simp only [rowsT_getD t hyt]
      refine ⟨by omega, hlt, by omega, by omega, fun hw => ⟨by decide, ?_⟩, fun hw => ⟨inK_i64.2 (by omega), y + 1, ⟨by omega, h, heq, fun p hp => ?_⟩, by omega, rfl⟩⟩
      · have hno : cutOk t c = false := by
          cases hcase : cutOk t c with
          | false => rfl
          | true =>
            have := List.all_eq_true.1 hcase y (List.mem_range.2 (by omega))
            rw [hw] at this; cases this
        have e : cutE t c = 1 := by unfold cutE; rw [if_pos h, if_pos heq, if_neg (by rw [hno]; decide)]
        rw [e] at hk; exact hk
      · rcases Nat.lt_or_ge p y with hpy | hpy
        · exact hall p hpy
        · have : p = y := by omega
          subst this
          exact hw
    · have hyes : cutOk t c = true := List.all_eq_true.2 fun p hp => hall p (by have := List.mem_range.1 hp; omega)
      have e : cutE t c = 0 := by unfold cutE; rw [if_pos h, if_pos heq, if_pos hyes]
      rw [e] at hk; exact hk

theorem okOfs : PlainOk Tryd.prog glT 52 cOfs := by
  refine plain_of (CxOk.mk' Ez_ok rfl mixed (gl := glT) (GOk.cons (lift okCheck) Tryd.func10 (by kernel_rfl) (by kernel_rfl) (GOk.cons (lift okWithin) Tryd.func44 (by kernel_rfl) (by kernel_rfl) (GOk.cons (lift okOf) Tryd.func15 (by kernel_rfl) (by kernel_rfl) GOk.nil))) GoOk.nil noIt) Tryd.func52 (c := Tryd.f52.body.getD .skip) (rvs := [(.tmp 4, .sl (.sl I)), (.tmp 5, tErr)]) (by kernel_rfl) (by kernel_rfl) (by kernel_rfl) ?_
  intro ds k ⟨hp, hk⟩ hwf
  obtain ⟨t, c, rfl, -⟩ := dest2 hp
  exact ⟨anOfs t c, ofs_vc t c k (wf2 hwf).1.1 (wf2 hwf).2.1 hk⟩
end Go.Proofs.YtbpoeigaoakdiaaDoor.H

/- What the functions of this seat have to satisfy, by program: each verification condition in plain words. -/
namespace Go.Proofs.YtbpoeigaoakdiaaDoor
open Go.Vc H
set_option linter.unusedVariables false
theorem vcEvents (t : Tr) (c : List Int) (k : List Dat → Prop) : vcF ⟨Ez, [(52, cOfs)], glT, [], []⟩ (anEvents t c) (Tryd.f31.body.getD .skip) Tryd.f31.ntmps [(.tmp 4, I), (.tmp 5, tErr)] [⟨tTr, t⟩, ⟨.sl I, c⟩] k = (
  True ∧ ((!decide (cutE t c = (0 : Int))) = true → k [Dat.mk (I) (0 : Int), Dat.mk (Ty.err (71 : Nat)) (cutE t c)]) ∧ ((!decide (cutE t c = (0 : Int))) = false → (∃ (x : Nat), (x ≤ c.length ∧ cutE t c = (0 : Int)) ∧ (t = t ∧ c = c ∧ ([] : List Nat) = [] ∧ (0 : Int) = (0 : Int) ∧ (0 : Int) = (0 : Int) ∧ ((if cutE t c = (0 : Int) then rowsT t (Int.toNat t.fst) else []) = if cutE t c = (0 : Int) then rowsT t (Int.toNat t.fst) else []) ∧ (0 : Int) = (↑(setK t c x) : Int) ∧ c = c ∧ (↑c.length : Int) = (↑c.length : Int) ∧ (0 : Int) = (↑x : Int) ∧ True) ∧ (((24 : Nat) = (24 : Nat) ∧ t = t) ∧ True) ∧ tabD = tabD ∧ True) ∧ ∀ (x : Nat), x ≤ c.length ∧ cutE t c = (0 : Int) → (decide ((↑x : Int) < (↑c.length : Int)) = true → (0 : Int) ≤ (↑x : Int) ∧ (↑x : Int) < (↑c.length : Int) ∧ (0 : Int) ≤ (↑x : Int) ∧ (↑x : Int) < (↑(if cutE t c = (0 : Int) then rowsT t (Int.toNat t.fst) else []).length : Int) ∧ (0 : Int) ≤ (0 : Int) ∧ (0 : Int) ≤ c.getD (↑x : Int).toNat (0 : Int) ∧ c.getD (↑x : Int).toNat (0 : Int) ≤ (↑((if cutE t c = (0 : Int) then rowsT t (Int.toNat t.fst) else []).getD (↑x : Int).toNat []).length : Int) ∧ (∃ (x_1 : Nat), (x_1 ≤ (takeC t c (↑x : Int).toNat).length ∧ True) ∧ (t = t ∧ c = c ∧ ([] : List Nat) = [] ∧ (0 : Int) = (0 : Int) ∧ (0 : Int) = (0 : Int) ∧ ((if cutE t c = (0 : Int) then rowsT t (Int.toNat t.fst) else []) = if cutE t c = (0 : Int) then rowsT t (Int.toNat t.fst) else []) ∧ (↑(setK t c x) : Int) = (↑(orB (setK t c (↑x : Int).toNat) (List.take x_1 (takeC t c (↑x : Int).toNat))) : Int) ∧ c = c ∧ (↑c.length : Int) = (↑c.length : Int) ∧ (↑x : Int) = (↑x : Int) ∧ List.drop (Int.toNat (0 : Int)) (List.take (c.getD (↑x : Int).toNat (0 : Int)).toNat ((if cutE t c = (0 : Int) then rowsT t (Int.toNat t.fst) else []).getD (↑x : Int).toNat [])) = List.drop (Int.toNat (0 : Int)) (List.take (c.getD (↑x : Int).toNat (0 : Int)).toNat ((if cutE t c = (0 : Int) then rowsT t (Int.toNat t.fst) else []).getD (↑x : Int).toNat [])) ∧ (↑(List.drop (Int.toNat (0 : Int)) (List.take (c.getD (↑x : Int).toNat (0 : Int)).toNat ((if cutE t c = (0 : Int) then rowsT t (Int.toNat t.fst) else []).getD (↑x : Int).toNat []))).length : Int) = (↑(List.drop (Int.toNat (0 : Int)) (List.take (c.getD (↑x : Int).toNat (0 : Int)).toNat ((if cutE t c = (0 : Int) then rowsT t (Int.toNat t.fst) else []).getD (↑x : Int).toNat []))).length : Int) ∧ (0 : Int) = (↑x_1 : Int) ∧ True) ∧ (((24 : Nat) = (24 : Nat) ∧ t = t) ∧ True) ∧ tabD = tabD ∧ True) ∧ ∀ (x_1 : Nat), x_1 ≤ (takeC t c (↑x : Int).toNat).length ∧ True → (decide ((↑x_1 : Int) < (↑(List.drop (Int.toNat (0 : Int)) (List.take (c.getD (↑x : Int).toNat (0 : Int)).toNat ((if cutE t c = (0 : Int) then rowsT t (Int.toNat t.fst) else []).getD (↑x : Int).toNat []))).length : Int)) = true → (0 : Int) ≤ (↑x_1 : Int) ∧ (↑x_1 : Int) < (↑(List.drop (Int.toNat (0 : Int)) (List.take (c.getD (↑x : Int).toNat (0 : Int)).toNat ((if cutE t c = (0 : Int) then rowsT t (Int.toNat t.fst) else []).getD (↑x : Int).toNat []))).length : Int) ∧ (0 : Int) ≤ (List.drop (Int.toNat (0 : Int)) (List.take (c.getD (↑x : Int).toNat (0 : Int)).toNat ((if cutE t c = (0 : Int) then rowsT t (Int.toNat t.fst) else []).getD (↑x : Int).toNat []))).getD (↑x_1 : Int).toNat (0 : Int) ∧ (List.drop (Int.toNat (0 : Int)) (List.take (c.getD (↑x : Int).toNat (0 : Int)).toNat ((if cutE t c = (0 : Int) then rowsT t (Int.toNat t.fst) else []).getD (↑x : Int).toNat []))).getD (↑x_1 : Int).toNat (0 : Int) < (64 : Int) ∧ IntKind.i64.bits = (64 : Nat) ∧ inK IntKind.i64 ((1 : Int) * (2 : Int) ^ ((List.drop (Int.toNat (0 : Int)) (List.take (c.getD (↑x : Int).toNat (0 : Int)).toNat ((if cutE t c = (0 : Int) then rowsT t (Int.toNat t.fst) else []).getD (↑x : Int).toNat []))).getD (↑x_1 : Int).toNat (0 : Int)).toNat) ∧ (0 : Int) ≤ (↑(orB (setK t c (↑x : Int).toNat) (List.take x_1 (takeC t c (↑x : Int).toNat))) : Int) ∧ (0 : Int) ≤ (1 : Int) * (2 : Int) ^ ((List.drop (Int.toNat (0 : Int)) (List.take (c.getD (↑x : Int).toNat (0 : Int)).toNat ((if cutE t c = (0 : Int) then rowsT t (Int.toNat t.fst) else []).getD (↑x : Int).toNat []))).getD (↑x_1 : Int).toNat (0 : Int)).toNat ∧ inK IntKind.i64 ((↑x_1 : Int) + (1 : Int)) ∧ ∃ (x_2 : Nat), (x_2 ≤ (takeC t c (↑x : Int).toNat).length ∧ True) ∧ c.length + t.snd.fst.length - x_2 < c.length + t.snd.fst.length - x_1 ∧ (t = t ∧ c = c ∧ ([] : List Nat) = [] ∧ (0 : Int) = (0 : Int) ∧ (0 : Int) = (0 : Int) ∧ ((if cutE t c = (0 : Int) then rowsT t (Int.toNat t.fst) else []) = if cutE t c = (0 : Int) then rowsT t (Int.toNat t.fst) else []) ∧ (↑((↑(orB (setK t c (↑x : Int).toNat) (List.take x_1 (takeC t c (↑x : Int).toNat))) : Int).toNat ||| ((1 : Int) * (2 : Int) ^ ((List.drop (Int.toNat (0 : Int)) (List.take (c.getD (↑x : Int).toNat (0 : Int)).toNat ((if cutE t c = (0 : Int) then rowsT t (Int.toNat t.fst) else []).getD (↑x : Int).toNat []))).getD (↑x_1 : Int).toNat (0 : Int)).toNat).toNat) : Int) = (↑(orB (setK t c (↑x : Int).toNat) (List.take x_2 (takeC t c (↑x : Int).toNat))) : Int) ∧ c = c ∧ (↑c.length : Int) = (↑c.length : Int) ∧ (↑x : Int) = (↑x : Int) ∧ List.drop (Int.toNat (0 : Int)) (List.take (c.getD (↑x : Int).toNat (0 : Int)).toNat ((if cutE t c = (0 : Int) then rowsT t (Int.toNat t.fst) else []).getD (↑x : Int).toNat [])) = List.drop (Int.toNat (0 : Int)) (List.take (c.getD (↑x : Int).toNat (0 : Int)).toNat ((if cutE t c = (0 : Int) then rowsT t (Int.toNat t.fst) else []).getD (↑x : Int).toNat [])) ∧ (↑(List.drop (Int.toNat (0 : Int)) (List.take (c.getD (↑x : Int).toNat (0 : Int)).toNat ((if cutE t c = (0 : Int) then rowsT t (Int.toNat t.fst) else []).getD (↑x : Int).toNat []))).length : Int) = (↑(List.drop (Int.toNat (0 : Int)) (List.take (c.getD (↑x : Int).toNat (0 : Int)).toNat ((if cutE t c = (0 : Int) then rowsT t (Int.toNat t.fst) else []).getD (↑x : Int).toNat []))).length : Int) ∧ (↑x_1 : Int) + (1 : Int) = (↑x_2 : Int) ∧ True) ∧ (((24 : Nat) = (24 : Nat) ∧ t = t) ∧ True) ∧ tabD = tabD ∧ True) ∧ (decide ((↑x_1 : Int) < (↑(List.drop (Int.toNat (0 : Int)) (List.take (c.getD (↑x : Int).toNat (0 : Int)).toNat ((if cutE t c = (0 : Int) then rowsT t (Int.toNat t.fst) else []).getD (↑x : Int).toNat []))).length : Int)) = false → inK IntKind.i64 ((↑x : Int) + (1 : Int)) ∧ ∃ (x_2 : Nat), (x_2 ≤ c.length ∧ cutE t c = (0 : Int)) ∧ c.length - x_2 < c.length - x ∧ (t = t ∧ c = c ∧ ([] : List Nat) = [] ∧ (0 : Int) = (0 : Int) ∧ (0 : Int) = (0 : Int) ∧ ((if cutE t c = (0 : Int) then rowsT t (Int.toNat t.fst) else []) = if cutE t c = (0 : Int) then rowsT t (Int.toNat t.fst) else []) ∧ (↑(orB (setK t c (↑x : Int).toNat) (List.take x_1 (takeC t c (↑x : Int).toNat))) : Int) = (↑(setK t c x_2) : Int) ∧ c = c ∧ (↑c.length : Int) = (↑c.length : Int) ∧ (↑x : Int) + (1 : Int) = (↑x_2 : Int) ∧ True) ∧ (((24 : Nat) = (24 : Nat) ∧ t = t) ∧ True) ∧ tabD = tabD ∧ True)) ∧ (decide ((↑x : Int) < (↑c.length : Int)) = false → k [Dat.mk (I) (↑(setK t c x) : Int), Dat.mk (Ty.err (71 : Nat)) (0 : Int)]))) := by kernel_rfl
theorem vcHas (s i : Int) (k : List Dat → Prop) : vcF ⟨Ez, [], glT, [], []⟩ [] (Tryd.f59.body.getD .skip) Tryd.f59.ntmps [(.tmp 4, .bool)] [⟨I, s⟩, ⟨I, i⟩] k = (
  (0 : Int) ≤ i ∧ i < (64 : Int) ∧ IntKind.i64.bits = (64 : Nat) ∧ inK IntKind.i64 (s / (2 : Int) ^ i.toNat) ∧ (0 : Int) ≤ s / (2 : Int) ^ i.toNat ∧ (0 : Int) ≤ (1 : Int) ∧ k [Dat.mk Ty.bool (decide ((↑((s / (2 : Int) ^ i.toNat).toNat &&& Int.toNat (1 : Int)) : Int) = (1 : Int)))]) := by kernel_rfl
theorem vcBits (s : Int) (k : List Dat → Prop) : vcF ⟨Ez, [], glT, [], []⟩ anBits (Tryd.f58.body.getD .skip) Tryd.f58.ntmps [(.tmp 2, tF)] [⟨I, s⟩] k = (
  k [Dat.mk (Ty.fn (68 : Nat) ((I).ptr.pr Ty.un)) (some (some s, ()))]) := by kernel_rfl
theorem vcIs (t : Tr) (c : List Int) (k : List Dat → Prop) : vcF ⟨Ez, [(31, cEvents), (58, cBitsF), (59, cHas)], glT, [(68, cBits)], []⟩ (anIs t c) (Tryd.f32.body.getD .skip) Tryd.f32.ntmps [(.cell 4 4, .bool), (.cell 5 28, tErr)] [⟨tTr, t⟩, ⟨.sl I, c⟩] k = (
  True ∧ ((!decide (cutE t c = (0 : Int))) = true → k [Dat.mk Ty.bool false, Dat.mk (Ty.err (71 : Nat)) (cutE t c)]) ∧ ((!decide (cutE t c = (0 : Int))) = false → True ∧ (∃ (x : List Int), (cutE t c = (0 : Int) ∧ ∀ (y : Int), y ∈ x → heard t.snd.fst (setN t c) y = true) ∧ x = [] ∧ (([] : List Nat) = [] ∧ ([] : List Nat) = [] ∧ ([] : List Nat) = [] ∧ ([] : List Nat) = [] ∧ some (some (setE t c), ()) = some (some (setE t c), ()) ∧ True) ∧ (((24 : Nat) = (24 : Nat) ∧ t = t) ∧ ((4 : Nat) = (4 : Nat) ∧ false = false) ∧ ((28 : Nat) = (28 : Nat) ∧ (0 : Int) = (0 : Int)) ∧ ((3 : Nat) = (3 : Nat) ∧ setE t c = setE t c) ∧ True) ∧ tabD = tabD ∧ True) ∧ (∀ (x : List Int), (cutE t c = (0 : Int) ∧ ∀ (y : Int), y ∈ x → heard t.snd.fst (setN t c) y = true) → some (some (setE t c), ()) = some (some (setE t c), ())) ∧ (∀ (x : List Int) (y : Int) (rest : List Int), (cutE t c = (0 : Int) ∧ ∀ (y : Int), y ∈ x → heard t.snd.fst (setN t c) y = true) → bitsOf (setE t c) = x ++ y :: rest → (0 : Int) ≤ y ∧ y < (↑(List.length t.snd.fst) : Int) ∧ (decide ((0 : Int) ≤ (List.getD t.snd.fst y.toNat ((0 : Int), (0 : Int), ())).snd.fst) = true → (((0 : Int) ≤ setE t c ∧ (0 : Int) ≤ (List.getD t.snd.fst y.toNat ((0 : Int), (0 : Int), ())).snd.fst ∧ (List.getD t.snd.fst y.toNat ((0 : Int), (0 : Int), ())).snd.fst < (64 : Int)) ∧ True) ∧ ((!(setE t c).toNat.testBit (Int.toNat (List.getD t.snd.fst y.toNat ((0 : Int), (0 : Int), ())).snd.fst)) = true → k [Dat.mk Ty.bool false, Dat.mk (Ty.err (71 : Nat)) (0 : Int)]) ∧ ((!(setE t c).toNat.testBit (Int.toNat (List.getD t.snd.fst y.toNat ((0 : Int), (0 : Int), ())).snd.fst)) = false → ∃ (x_1 : List Int), (cutE t c = (0 : Int) ∧ ∀ (y : Int), y ∈ x_1 → heard t.snd.fst (setN t c) y = true) ∧ x_1 = x ++ [y] ∧ (([] : List Nat) = [] ∧ ([] : List Nat) = [] ∧ ([] : List Nat) = [] ∧ ([] : List Nat) = [] ∧ some (some (setE t c), ()) = some (some (setE t c), ()) ∧ True) ∧ (((24 : Nat) = (24 : Nat) ∧ t = t) ∧ ((4 : Nat) = (4 : Nat) ∧ false = false) ∧ ((28 : Nat) = (28 : Nat) ∧ (0 : Int) = (0 : Int)) ∧ ((3 : Nat) = (3 : Nat) ∧ setE t c = setE t c) ∧ True) ∧ tabD = tabD ∧ True)) ∧ (decide ((0 : Int) ≤ (List.getD t.snd.fst y.toNat ((0 : Int), (0 : Int), ())).snd.fst) = false → ∃ (x_1 : List Int), (cutE t c = (0 : Int) ∧ ∀ (y : Int), y ∈ x_1 → heard t.snd.fst (setN t c) y = true) ∧ x_1 = x ++ [y] ∧ (([] : List Nat) = [] ∧ ([] : List Nat) = [] ∧ ([] : List Nat) = [] ∧ ([] : List Nat) = [] ∧ some (some (setE t c), ()) = some (some (setE t c), ()) ∧ True) ∧ (((24 : Nat) = (24 : Nat) ∧ t = t) ∧ ((4 : Nat) = (4 : Nat) ∧ false = false) ∧ ((28 : Nat) = (28 : Nat) ∧ (0 : Int) = (0 : Int)) ∧ ((3 : Nat) = (3 : Nat) ∧ setE t c = setE t c) ∧ True) ∧ tabD = tabD ∧ True)) ∧ ∀ (x : List Int), (cutE t c = (0 : Int) ∧ ∀ (y : Int), y ∈ x → heard t.snd.fst (setN t c) y = true) → x = bitsOf (setE t c) → k [Dat.mk Ty.bool true, Dat.mk (Ty.err (71 : Nat)) (0 : Int)])) := by kernel_rfl
end Go.Proofs.YtbpoeigaoakdiaaDoor

/- Cuts: the events of a cut, and whether it is whole. -/
namespace Go.Proofs.YtbpoeigaoakdiaaDoor.H
open Go.Vc

theorem cut_ok {t : Tr} {c : List Int} (h : cutE t c = 0) : chk t = 0 ∧ (c.length : Int) = t.1 ∧ ∀ p, p < c.length → 0 ≤ c.getD p 0 ∧ c.getD p 0 ≤ ((ofT t (p : Int)).length : Int) := by
  unfold cutE at h
  split at h
  · rename_i h1
    split at h
    · rename_i h2
      split at h
      · rename_i h3
        refine ⟨h1, h2, fun p hp => ?_⟩
        have := List.all_eq_true.1 h3 p (List.mem_range.2 hp)
        unfold inB at this
        simpa using this
      · exact absurd h (by decide)
    · exact absurd h (by decide)
  · rename_i h1; exact absurd h h1
theorem ofT_mem {t : Tr} {p x : Int} (h : x ∈ ofT t p) : 0 ≤ x ∧ x < (t.2.1.length : Int) ∧ (t.2.1.getD x.toNat (0, 0, ())).1 = p := by
  unfold ofT ofU at h
  obtain ⟨i, hi, rfl⟩ := List.mem_map.1 h
  obtain ⟨h1, h2⟩ := List.mem_filter.1 hi
  have := List.mem_range.1 h1
  exact ⟨by omega, by omega, by simpa using h2⟩
theorem takeC_mem {t : Tr} {c : List Int} {p : Nat} {x : Int} (h : x ∈ takeC t c p) : 0 ≤ x ∧ x < (t.2.1.length : Int) ∧ (t.2.1.getD x.toNat (0, 0, ())).1 = (p : Int) := ofT_mem (List.mem_of_mem_take h)
theorem setK_succ (t : Tr) (c : List Int) (k : Nat) : setK t c (k + 1) = orB (setK t c k) (takeC t c k) := by
  unfold setK
  rw [List.range_succ, List.foldl_append]; rfl
theorem orB_snoc (s : Nat) (l : List Int) (x : Int) : orB s (l ++ [x]) = orB s l ||| 2 ^ x.toNat := by
  unfold orB
  rw [List.foldl_append]; rfl
theorem getD_at {l : List Int} {i : Nat} (h : i < l.length) : l.getD i 0 = l[i] := by
  rw [List.getD_eq_getElem?_getD, List.getElem?_eq_getElem h]; rfl
theorem take_snoc {l : List Int} {i : Nat} (h : i < l.length) : l.take (i + 1) = l.take i ++ [l.getD i 0] := by
  rw [List.take_add_one, List.getElem?_eq_getElem h, getD_at h]; rfl
theorem orB_bit (l : List Int) : ∀ (s i : Nat), (orB s l).testBit i = true ↔ s.testBit i = true ∨ ∃ x ∈ l, x.toNat = i := by
  induction l with
  | nil => intro s i; simp [orB]
  | cons a r ih =>
    intro s i
    have : orB s (a :: r) = orB (s ||| 2 ^ a.toNat) r := rfl
    rw [this, ih, bit_or2]
    constructor
    · rintro ((h | h) | ⟨x, hx, h⟩)
      · exact .inl h
      · exact .inr ⟨a, .head _, h.symm⟩
      · exact .inr ⟨x, .tail _ hx, h⟩
    · rintro (h | ⟨x, hx, h⟩)
      · exact .inl (.inl h)
      · rcases List.mem_cons.1 hx with rfl | hx
        · exact .inl (.inr h.symm)
        · exact .inr ⟨x, hx, h⟩
theorem setK_bit (t : Tr) (c : List Int) (i : Nat) : ∀ k, (setK t c k).testBit i = true ↔ ∃ p, p < k ∧ (i : Int) ∈ takeC t c p := by
  intro k
  induction k with
  | zero =>
    have : setK t c 0 = 0 := rfl
    rw [this, Nat.zero_testBit]
    exact ⟨fun h => (by cases h), fun ⟨p, h, _⟩ => absurd h (by omega)⟩
  | succ k ih =>
    rw [setK_succ, orB_bit, ih]
    constructor
    · rintro (⟨p, hp, h⟩ | ⟨x, hx, h⟩)
      · exact ⟨p, by omega, h⟩
      · have := (takeC_mem hx).1
        have e : x = (i : Int) := by omega
        exact ⟨k, by omega, e ▸ hx⟩
    · rintro ⟨p, hp, h⟩
      rcases Nat.lt_or_ge p k with hl | hl
      · exact .inl ⟨p, hl, h⟩
      · have : p = k := by omega
        subst this
        exact .inr ⟨_, h, rfl⟩
theorem setN_lt {t : Tr} (g : Good t) (c : List Int) (k : Nat) : setK t c k < 2 ^ 24 := by
  apply Nat.lt_pow_two_of_testBit
  intro i hi
  cases h : (setK t c k).testBit i with
  | false => rfl
  | true =>
    obtain ⟨p, _, hm⟩ := (setK_bit t c i k).1 h
    have := takeC_mem hm
    have := g.len
    omega

theorem events_vc (t : Tr) (c : List Int) (k : List Dat → Prop) (hk : k [⟨I, setE t c⟩, ⟨tErr, cutE t c⟩]) :
    vcF ⟨Ez, [(52, cOfs)], glT, [], []⟩ (anEvents t c) (Tryd.f31.body.getD .skip) Tryd.f31.ntmps [(.tmp 4, I), (.tmp 5, tErr)] [⟨tTr, t⟩, ⟨.sl I, c⟩] k := by
  rw [vcEvents]
  simp only [decide_eq_true_eq, decide_eq_false_iff_not, and_true, true_and, Bool.not_eq_true', Bool.not_eq_false', Int.toNat_natCast]
  refine ⟨fun h => ?_, fun h => ?_⟩
  · have e : setE t c = 0 := by unfold setE; rw [if_neg h]
    rw [e] at hk; exact hk
  · obtain ⟨h1, h2, h3⟩ := cut_ok h
    have g := good_of h1
    have hl := g.len
    have hpr := g.procs
    have hif : (if cutE t c = 0 then rowsT t t.1.toNat else []) = rowsT t t.1.toNat := if_pos h
    simp only [hif, rowsT_len]
    simp only [h, and_true]
    refine ⟨⟨0, by omega, rfl, rfl⟩, fun x hx => ⟨fun hlt => ?_, fun hge => ?_⟩⟩
    · have hxt : x < t.1.toNat := by omega
      have hc := h3 x (by omega)
      have htk : List.drop (Int.toNat (0 : Int)) (List.take (c.getD x 0).toNat (ofT t (x : Int))) = takeC t c x := rfl
      simp only [rowsT_getD t hxt, htk]
      refine ⟨by omega, hlt, by omega, by omega, by omega, hc.1, hc.2, ⟨0, by omega, rfl, rfl⟩, fun y hy => ⟨fun hlt2 => ?_, fun hge2 => ⟨inK_i64.2 (by omega), x + 1, by omega, by omega, ?_, by omega⟩⟩⟩
      · have hyl : y < (takeC t c x).length := by omega
        have hm : (takeC t c x).getD y 0 ∈ takeC t c x := by rw [getD_at hyl]; exact List.getElem_mem hyl
        have hmm := takeC_mem hm
        have hlen : (takeC t c x).length ≤ t.2.1.length := by
          unfold takeC
          rw [List.length_take]
          have := ofU_len t.2.1 (x : Int) t.2.1.length
          unfold ofT
          omega
        rw [one_shl]
        have hp := two_pow_le (n := ((takeC t c x).getD y 0).toNat) (by omega)
        have hp2 := two_pow_pos ((takeC t c x).getD y 0).toNat
        have hpe : (((2 ^ ((takeC t c x).getD y 0).toNat : Nat)) : Int) = (2 : Int) ^ ((takeC t c x).getD y 0).toNat := by rw [Int.natCast_pow]; rfl
        refine ⟨by omega, hlt2, hmm.1, by omega, rfl, inK_i64.2 (by omega), by omega, by omega, inK_i64.2 (by omega), y + 1, by omega, by omega, ?_, by omega⟩
        rw [take_snoc hyl, orB_snoc, Int.toNat_natCast]
      · have : y = (takeC t c x).length := by omega
        subst this
        rw [List.take_length, setK_succ]
    · have : x = c.length := by omega
      subst this
      have e : setE t c = (setK t c c.length : Int) := by unfold setE; rw [if_pos h]; rfl
      rw [e, h] at hk; exact hk

theorem okEvents : PlainOk Tryd.prog glT 31 cEvents := by
  refine plain_of (CxOk.mk' Ez_ok rfl mixed (gl := glT) (GOk.cons okOfs Tryd.func52 (by kernel_rfl) (by kernel_rfl) GOk.nil) GoOk.nil noIt) Tryd.func31 (c := Tryd.f31.body.getD .skip) (rvs := [(.tmp 4, I), (.tmp 5, tErr)]) (by kernel_rfl) (by kernel_rfl) (by kernel_rfl) ?_
  intro ds k ⟨hp, hk⟩ hwf
  obtain ⟨t, c, rfl, -⟩ := dest2 hp
  exact ⟨anEvents t c, events_vc t c k hk⟩

theorem okHas : PlainOk Tryd.prog glT 59 cHas := by
  refine plain_of (CxOk.mk' Ez_ok rfl mixed (gl := glT) GOk.nil GoOk.nil noIt) Tryd.func59 (c := Tryd.f59.body.getD .skip) (rvs := [(.tmp 4, .bool)]) (by kernel_rfl) (by kernel_rfl) (by kernel_rfl) ?_
  intro ds k ⟨hp, hk⟩ hwf
  obtain ⟨s, i, rfl, ⟨⟨hs, hi, hi2⟩, -⟩⟩ := dest2 hp
  have hk : k [⟨.bool, s.toNat.testBit i.toNat⟩] := hk
  refine ⟨[], ?_⟩
  rw [vcHas]
  have hsw := inK_i64.1 (wf2 hwf).1
  have hpos : (0 : Int) < 2 ^ i.toNat := Int.pow_pos (by omega)
  have hdlt : s / (2 : Int) ^ i.toNat ≤ 9223372036854775807 := Int.le_trans (Int.ediv_le_self _ hs) hsw.2
  have hd1 : 0 ≤ s / (2 : Int) ^ i.toNat := Int.ediv_nonneg hs (by omega)
  have hd2 : s / (2 : Int) ^ i.toNat ≤ s := Int.ediv_le_self _ hs
  refine ⟨hi, hi2, rfl, inK_i64.2 ⟨Int.le_trans (by decide) hd1, hdlt⟩, hd1, by decide, ?_⟩
  have e1 : (s / (2 : Int) ^ i.toNat).toNat = s.toNat / 2 ^ i.toNat := by
    obtain ⟨n, rfl⟩ := Int.eq_ofNat_of_zero_le hs
    have : ((2 : Int) ^ i.toNat) = ((2 ^ i.toNat : Nat) : Int) := by rw [Int.natCast_pow]; rfl
    rw [this]; rfl
  have : decide ((((s / (2 : Int) ^ i.toNat).toNat &&& Int.toNat (1 : Int) : Nat) : Int) = 1) = s.toNat.testBit i.toNat := by
    have h1 : Int.toNat (1 : Int) = 1 := rfl
    rw [e1, h1, Nat.and_one_is_mod, Nat.testBit_eq_decide_div_mod_eq]
    by_cases h : s.toNat / 2 ^ i.toNat % 2 = 1
    · rw [h]; rfl
    · rw [decide_eq_false h]
      exact decide_eq_false (by omega)
  rw [this]
  exact hk

theorem okBits : PlainOk Tryd.prog glT 58 cBitsF := by
  refine plain_of (CxOk.mk' Ez_ok rfl mixed (gl := glT) GOk.nil GoOk.nil noIt) Tryd.func58 (c := Tryd.f58.body.getD .skip) (rvs := [(.tmp 2, tF)]) (by kernel_rfl) (by kernel_rfl) (by kernel_rfl) ?_
  intro ds k ⟨hp, hk⟩ hwf
  obtain ⟨s, rfl, -⟩ := dest1 hp
  refine ⟨anBits, ?_⟩
  rw [vcBits]
  exact hk

theorem bitsOf_mem {N : Nat} (hN : N < 2 ^ 64) (y : Int) : y ∈ bitsOf (N : Int) ↔ ∃ i : Nat, y = (i : Int) ∧ N.testBit i = true := by
  have e : ((N : Int) % 18446744073709551616).toNat = N := by
    have : N < 18446744073709551616 := hN
    omega
  unfold bitsOf bitsN
  rw [e]
  constructor
  · intro h
    obtain ⟨i, hi, rfl⟩ := List.mem_map.1 h
    exact ⟨i, rfl, (List.mem_filter.1 hi).2⟩
  · rintro ⟨i, rfl, hi⟩
    refine List.mem_map.2 ⟨i, List.mem_filter.2 ⟨List.mem_range'_1.2 ⟨by omega, ?_⟩, hi⟩, rfl⟩
    rcases Nat.lt_or_ge i 64 with h | h
    · omega
    · have := Nat.testBit_lt_two_pow (Nat.lt_of_lt_of_le hN (Nat.pow_le_pow_right (by omega) h))
      rw [this] at hi; cases hi

theorem is_vc (t : Tr) (c : List Int) (k : List Dat → Prop) (hk : k [⟨.bool, if cutE t c = 0 then wholeB t c else false⟩, ⟨tErr, cutE t c⟩]) :
    vcF ⟨Ez, [(31, cEvents), (58, cBitsF), (59, cHas)], glT, [(68, cBits)], []⟩ (anIs t c) (Tryd.f32.body.getD .skip) Tryd.f32.ntmps [(.cell 4 4, .bool), (.cell 5 28, tErr)] [⟨tTr, t⟩, ⟨.sl I, c⟩] k := by
  rw [vcIs]
  simp only [decide_eq_true_eq, decide_eq_false_iff_not, and_true, true_and, Bool.not_eq_true', Bool.not_eq_false']
  refine ⟨fun h => ?_, fun h => ?_⟩
  · rw [if_neg h] at hk; exact hk
  · obtain ⟨h1, h2, h3⟩ := cut_ok h
    have g := good_of h1
    have hl := g.len
    have hS : setE t c = (setN t c : Int) := by unfold setE; rw [if_pos h]
    have hlt : setN t c < 2 ^ 64 := Nat.lt_trans (setN_lt g c _) (by decide)
    rw [if_pos h] at hk
    rw [hS]
    simp only [h, true_and, Int.toNat_natCast]
    rw [h] at hk
    have ext : ∀ (x : List Int) (y : Int), (∀ z ∈ x, heard t.2.1 (setN t c) z = true) → heard t.2.1 (setN t c) y = true → ∀ z ∈ x ++ [y], heard t.2.1 (setN t c) z = true := by
      intro x y hx hy z hz
      rcases List.mem_append.1 hz with hz | hz
      · exact hx z hz
      · rw [List.mem_singleton.1 hz]; exact hy
    refine ⟨⟨[], fun y hy => (by cases hy), rfl⟩, fun _ _ => trivial, fun x y rest hx hxs => ?_, fun x hx hxs => ?_⟩
    · have hy : y ∈ bitsOf (setN t c : Int) := by rw [hxs]; exact List.mem_append_right _ (.head _)
      obtain ⟨i, rfl, hi⟩ := (bitsOf_mem hlt y).1 hy
      obtain ⟨p, _, hm⟩ := (setK_bit t c i c.length).1 hi
      have hmm := takeC_mem hm
      have hil : i < t.2.1.length := by omega
      have he := g.ev i hil
      rw [Int.toNat_natCast]
      refine ⟨by omega, by omega, fun h0 => ⟨⟨by omega, h0, by omega⟩, fun hb => ?_, fun hb => ⟨x ++ [(i : Int)], ext x i hx ?_, rfl⟩⟩, fun h0 => ⟨x ++ [(i : Int)], ext x i hx ?_, rfl⟩⟩
      · have : wholeB t c = false := by
          cases hw : wholeB t c with
          | false => rfl
          | true =>
            have := List.all_eq_true.1 hw _ hy
            unfold heard at this
            rw [Int.toNat_natCast, hb, decide_eq_false (by omega)] at this
            cases this
        rw [this] at hk; exact hk
      · unfold heard
        rw [Int.toNat_natCast, hb, Bool.or_true]
      · unfold heard
        rw [Int.toNat_natCast, decide_eq_true (by omega), Bool.true_or]
    · have : wholeB t c = true := List.all_eq_true.2 fun y hy => hx y (hxs ▸ hy)
      rw [this] at hk; exact hk

theorem itB : ∀ g c, (g, c) ∈ [(68, cBits)] → ItOk Tryd.prog glT g c := fun g c h => by
  obtain ⟨rfl, rfl⟩ := Prod.mk.inj (List.mem_singleton.1 h)
  exact itBits

theorem okIs : PlainOk Tryd.prog glT 32 cIs := by
  refine plain_of (CxOk.mk' Ez_ok rfl mixed (gl := glT) (GOk.cons okEvents Tryd.func31 (by kernel_rfl) (by kernel_rfl) (GOk.cons okBits Tryd.func58 (by kernel_rfl) (by kernel_rfl) (GOk.cons okHas Tryd.func59 (by kernel_rfl) (by kernel_rfl) GOk.nil))) GoOk.nil itB) Tryd.func32 (c := Tryd.f32.body.getD .skip) (rvs := [(.cell 4 4, .bool), (.cell 5 28, tErr)]) (by kernel_rfl) (by kernel_rfl) (by kernel_rfl) ?_
  intro ds k ⟨hp, hk⟩ hwf
  obtain ⟨t, c, rfl, -⟩ := dest2 hp
  exact ⟨anIs t c, is_vc t c k hk⟩
end Go.Proofs.YtbpoeigaoakdiaaDoor.H

/- Cuts: the mathematics. -/
namespace Go.Proofs.YtbpoeigaoakdiaaDoor.H
open Go.Vc

theorem cut_mk {t : Tr} {c : List Int} (h1 : chk t = 0) (h2 : (c.length : Int) = t.1) (h3 : ∀ p, p < c.length → 0 ≤ c.getD p 0 ∧ c.getD p 0 ≤ ((ofT t (p : Int)).length : Int)) : cutE t c = 0 := by
  unfold cutE
  have : cutOk t c = true := List.all_eq_true.2 fun p hp => by
    have := h3 p (List.mem_range.1 hp)
    unfold inB
    simpa using this
  rw [if_pos h1, if_pos h2, if_pos this]

theorem setN_bit (t : Tr) (c : List Int) (i : Nat) : (setN t c).testBit i = true ↔ ∃ p, p < c.length ∧ (i : Int) ∈ takeC t c p := setK_bit t c i _

theorem take_le {c d : List Int} {t : Tr} {p : Nat} (h : c.getD p 0 ≤ d.getD p 0) {y : Int} (hy : y ∈ takeC t c p) : y ∈ takeC t d p := by
  unfold takeC at *
  exact List.mem_of_mem_take (i := (c.getD p 0).toNat) (by rw [List.take_take, Nat.min_eq_left (by omega)]; exact hy)

theorem setN_le {t : Tr} {c d : List Int} (h : leC c d) {i : Nat} (hi : (setN t c).testBit i = true) : (setN t d).testBit i = true := by
  obtain ⟨p, hp, hm⟩ := (setN_bit t c i).1 hi
  exact (setN_bit t d i).2 ⟨p, by rw [← h.1]; exact hp, take_le (h.2 p hp) hm⟩

theorem heard_iff {l : List Ev} {N : Nat} {y : Int} : heard l N y = true ↔ (0 ≤ (l.getD y.toNat (0, 0, ())).2.1 → N.testBit (l.getD y.toNat (0, 0, ())).2.1.toNat = true) := by
  unfold heard
  rw [Bool.or_eq_true, decide_eq_true_eq]
  constructor
  · rintro (h | h) h0
    · omega
    · exact h
  · intro h
    by_cases h0 : 0 ≤ (l.getD y.toNat (0, 0, ())).2.1
    · exact .inr (h h0)
    · exact .inl (by omega)

theorem heard_le {t : Tr} {c d : List Int} (h : leC c d) {y : Int} (hy : heard t.2.1 (setN t c) y = true) : heard t.2.1 (setN t d) y = true := by
  rw [heard_iff] at *
  exact fun h0 => setN_le h (hy h0)

theorem whole_iff {t : Tr} (h : chk t = 0) (c : List Int) : wholeB t c = true ↔ fineP t c c.length := by
  have g := good_of h
  have hlt : setN t c < 2 ^ 64 := Nat.lt_trans (setN_lt g c _) (by decide)
  unfold wholeB
  rw [List.all_eq_true]
  constructor
  · intro hw p hp y hy
    have hm := takeC_mem hy
    refine hw y ((bitsOf_mem hlt y).2 ⟨y.toNat, by omega, (setN_bit t c _).2 ⟨p, hp, ?_⟩⟩)
    rw [show ((y.toNat : Nat) : Int) = y by omega]; exact hy
  · intro hf y hy
    obtain ⟨i, rfl, hi⟩ := (bitsOf_mem hlt y).1 hy
    obtain ⟨p, hp, hm⟩ := (setN_bit t c i).1 hi
    exact hf p hp _ hm

theorem getD_set_eq {l : List Int} {p q : Nat} {n : Int} (hp : p < l.length) : (l.set p n).getD q 0 = if p = q then n else l.getD q 0 := by
  rw [List.getD_eq_getElem?_getD, List.getElem?_set]
  by_cases h : p = q
  · rw [if_pos h, if_pos h]
    subst h
    rw [if_pos hp]; rfl
  · rw [if_neg h, if_neg h, List.getD_eq_getElem?_getD]

theorem takeC_len (t : Tr) (c : List Int) (p : Nat) : (takeC t c p).length ≤ (c.getD p 0).toNat ∧ (takeC t c p).length ≤ (ofT t (p : Int)).length := by
  unfold takeC
  rw [List.length_take]
  omega

theorem takeC_at {t : Tr} {c : List Int} {p n : Nat} (h : n < (takeC t c p).length) : (takeC t c p).getD n 0 = (ofT t (p : Int)).getD n 0 := by
  have h2 := takeC_len t c p
  rw [getD_at h, getD_at (by omega)]
  exact List.getElem_take

/-- what was heard of and is not there: the cut has to end ahead of it -/
theorem line_step {t : Tr} {c l l0 : List Int} (h : lnP t c l) (hle : leC l l0) {p n : Nat} (hp : p < l.length) (hn : n < (takeC t l p).length)
    (hno : heard t.2.1 (setN t l0) ((takeC t l p).getD n 0) = false) : lnP t c (l.set p (n : Int)) := by
  obtain ⟨h1, h2, h3⟩ := h
  obtain ⟨k1, k2, k3⟩ := cut_ok h1
  have htl := takeC_len t l p
  have hlp := k3 p hp
  refine ⟨cut_mk k1 (by rw [List.length_set]; exact k2) fun q hq => ?_, ⟨by rw [List.length_set]; exact h2.1, fun q hq => ?_⟩, fun d hd hdc => ?_⟩
  · rw [List.length_set] at hq
    rw [getD_set_eq hp]
    split
    · rename_i e; subst e; omega
    · exact k3 q hq
  · rw [List.length_set] at hq
    rw [getD_set_eq hp]
    have := h2.2 q hq
    split
    · rename_i e; subst e; omega
    · exact this
  · have hdl := h3 d hd hdc
    refine ⟨by rw [List.length_set]; exact hdl.1, fun q hq => ?_⟩
    rw [getD_set_eq hp]
    split
    · rename_i e
      subst e
      refine Int.not_lt.1 fun hgt => ?_
      have hnd : n < (takeC t d p).length := by
        unfold takeC
        rw [List.length_take]
        omega
      have hy : (takeC t l p).getD n 0 ∈ takeC t d p := by
        rw [takeC_at hn, ← takeC_at hnd, getD_at hnd]
        exact List.getElem_mem hnd
      have hh := (whole_iff k1 d).1 hd.2 p hq _ hy
      have := heard_le hle (heard_le hdl hh)
      rw [hno] at this; cases this
    · exact hdl.2 q hq

theorem sum_set : ∀ (l : List Int) (p : Nat) (n : Int), p < l.length → n.toNat < (l.getD p 0).toNat → sumC (l.set p n) < sumC l := by
  intro l
  induction l with
  | nil => intro p n hp; cases hp
  | cons a r ih =>
    intro p n hp hn
    cases p with
    | zero =>
      have hn : n.toNat < a.toNat := hn
      simp only [sumC, List.set_cons_zero, List.map_cons, List.sum_cons]
      omega
    | succ p =>
      have := ih p n (by simpa using hp) hn
      simp only [sumC, List.set_cons_succ, List.map_cons, List.sum_cons] at *
      omega

/-- the greater numbers, or the lesser ones, of two whole cuts -/
theorem whole_max {t : Tr} {x y m : List Int} (hx : wholeP t x) (hy : wholeP t y) (hm : m.length = x.length) (h : ∀ p, p < x.length → m.getD p 0 = if x.getD p 0 < y.getD p 0 then y.getD p 0 else x.getD p 0) : wholeP t m := by
  obtain ⟨a1, a2, a3⟩ := cut_ok hx.1
  obtain ⟨b1, b2, b3⟩ := cut_ok hy.1
  have hxy : x.length = y.length := by omega
  have lx : leC x m := ⟨hm.symm, fun p hp => by rw [h p hp]; split <;> omega⟩
  have ly : leC y m := ⟨by omega, fun p hp => by rw [h p (by omega)]; split <;> omega⟩
  refine ⟨cut_mk a1 (by omega) fun p hp => ?_, (whole_iff a1 m).2 fun p hp z hz => ?_⟩
  · rw [h p (by omega)]
    split
    · exact b3 p (by omega)
    · exact a3 p (by omega)
  · have hh := h p (by omega)
    split at hh
    · exact heard_le ly ((whole_iff a1 y).1 hy.2 p (by omega) z (take_le (c := m) (by omega) hz))
    · exact heard_le lx ((whole_iff a1 x).1 hx.2 p (by omega) z (take_le (c := m) (by omega) hz))

theorem whole_min {t : Tr} {x y m : List Int} (hx : wholeP t x) (hy : wholeP t y) (hm : m.length = x.length) (h : ∀ p, p < x.length → m.getD p 0 = if x.getD p 0 < y.getD p 0 then x.getD p 0 else y.getD p 0) : wholeP t m := by
  obtain ⟨a1, a2, a3⟩ := cut_ok hx.1
  obtain ⟨b1, b2, b3⟩ := cut_ok hy.1
  have hxy : x.length = y.length := by omega
  refine ⟨cut_mk a1 (by omega) fun p hp => ?_, (whole_iff a1 m).2 fun p hp z hz => ?_⟩
  · rw [h p (by omega)]
    split
    · exact a3 p (by omega)
    · exact b3 p (by omega)
  · have hh := h p (by omega)
    have hzx := (whole_iff a1 x).1 hx.2 p (by omega) z (take_le (c := m) (by rw [hh]; split <;> omega) hz)
    have hzy := (whole_iff a1 y).1 hy.2 p (by omega) z (take_le (c := m) (by rw [hh]; split <;> omega) hz)
    rw [heard_iff] at *
    intro h0
    obtain ⟨q, hq, hqm⟩ := (setN_bit t x _).1 (hzx h0)
    obtain ⟨r, hr, hrm⟩ := (setN_bit t y _).1 (hzy h0)
    have e1 := (takeC_mem hqm).2.2
    have e2 := (takeC_mem hrm).2.2
    have : q = r := by omega
    subst this
    refine (setN_bit t m _).2 ⟨q, by omega, ?_⟩
    have hh2 := h q hq
    split at hh2
    · exact take_le (c := x) (by omega) hqm
    · exact take_le (c := y) (by omega) hrm

theorem ofU_sorted (l : List Ev) (p : Int) (k : Nat) : (ofU l p k).Pairwise (· < ·) := by
  unfold ofU
  rw [List.pairwise_map]
  exact ((List.pairwise_lt_range (n := k)).filter _).imp fun h => by omega

theorem ofT_has {t : Tr} {i : Nat} (hi : i < t.2.1.length) : (i : Int) ∈ ofT t (t.2.1.getD i (0, 0, ())).1 := by
  unfold ofT ofU
  exact List.mem_map.2 ⟨i, List.mem_filter.2 ⟨List.mem_range.2 hi, by simp⟩, rfl⟩

theorem take_down {t : Tr} {c : List Int} {p i j : Nat} (hi : (i : Int) ∈ takeC t c p) (hji : j < i) (hj : (t.2.1.getD j (0, 0, ())).1 = (t.2.1.getD i (0, 0, ())).1) : (j : Int) ∈ takeC t c p := by
  have hm := takeC_mem hi
  have hjp : (t.2.1.getD j (0, 0, ())).1 = (p : Int) := by rw [hj]; exact hm.2.2
  have hjm : (j : Int) ∈ ofT t (p : Int) := by
    have := ofT_has (t := t) (i := j) (by omega)
    rw [hjp] at this; exact this
  have hs := ofU_sorted t.2.1 (p : Int) t.2.1.length
  have e : ofU t.2.1 (p : Int) t.2.1.length = takeC t c p ++ (ofT t (p : Int)).drop (c.getD p 0).toNat := (List.take_append_drop _ _).symm
  have hjm' : (j : Int) ∈ ofU t.2.1 (p : Int) t.2.1.length := hjm
  rw [e] at hs hjm'
  rcases List.mem_append.1 hjm' with h | h
  · exact h
  · have := (List.pairwise_append.1 hs).2.2 _ hi _ h
    omega

/-- a whole cut has all that happened before what it has -/
theorem whole_before {t : Tr} (h : chk t = 0) (c : List Int) (hc : cutE t c = 0) :
    wholeB t c = true ↔ ∀ i, i < t.2.1.length → (setN t c).testBit i = true → ∀ k, (bB t.2.1 i).testBit k = true → (setN t c).testBit k = true := by
  have g := good_of h
  rw [whole_iff h]
  constructor
  · intro hf i
    induction i using Nat.strongRecOn with
    | _ i ih =>
      intro hi hs k hk
      obtain ⟨j, hj, hjk⟩ := (bB_bit (good_prc' g) (good_frm' g) hi k).1 hk
      obtain ⟨p, hp, hm⟩ := (setN_bit t c i).1 hs
      have hjs : (setN t c).testBit j = true := by
        rcases hj with ⟨hji, h1 | h1⟩
        · refine (setN_bit t c j).2 ⟨p, hp, take_down hm hji ((prc_eq (gd_of h) hi (by omega)).2 h1.1)⟩
        · have := (heard_iff).1 (hf p hp _ hm)
          rw [Int.toNat_natCast] at this
          have h1' : (t.2.1.getD i (0, 0, ())).2.1 = (j : Int) := h1
          rw [h1', Int.toNat_natCast] at this
          exact this (by omega)
      rcases hjk with hjk | rfl
      · exact ih j hj.1 (by have := hj.1; omega) hjs k hjk
      · exact hjs
  · intro hb p hp y hy
    have hm := takeC_mem hy
    obtain ⟨i, rfl⟩ := Int.eq_ofNat_of_zero_le hm.1
    have hil : i < t.2.1.length := by have := hm.2.1; omega
    rw [heard_iff, Int.toNat_natCast]
    intro h0
    have he := g.ev i hil
    refine hb i hil ((setN_bit t c i).2 ⟨p, hp, hy⟩) _ (bB_must (good_prc' g) (good_frm' g) hil (by omega) (.inr ?_))
    show (t.2.1.getD i (0, 0, ())).2.1 = _
    omega
end Go.Proofs.YtbpoeigaoakdiaaDoor.H

/- How many whole cuts there are: plainly. -/
namespace Go.Proofs.YtbpoeigaoakdiaaDoor.H
open Go.Vc
def lenT (t : Tr) (p : Nat) : Nat := (ofT t (p : Int)).length
/-- all that go on from c by d numbers, each within its row -/
def allL (t : Tr) : Nat → List Int → List (List Int)
  | 0, c => [c]
  | d + 1, c => (List.range (lenT t c.length + 1)).flatMap fun (k : Nat) => allL t d (c ++ [(k : Int)])
def cutsN (t : Tr) (d : Nat) (c : List Int) : Nat := ((allL t d c).filter (wholeB t)).length
def countW (t : Tr) : Nat := cutsN t t.1.toNat []
/-- the product of so many rows' lengths, each and one, from one on -/
def prodL (t : Tr) : Nat → Nat → Nat
  | 0, _ => 1
  | d + 1, p => (lenT t p + 1) * prodL t d (p + 1)

theorem sum_const {α : Type} (f : α → Nat) (b : Nat) : ∀ l : List α, (∀ x ∈ l, f x = b) → (l.map f).sum = l.length * b
  | [], _ => by simp
  | x :: r, h => by
    have ih := sum_const f b r fun y hy => h y (List.mem_cons_of_mem _ hy)
    rw [List.map_cons, List.sum_cons, ih, h x (List.mem_cons_self ..), List.length_cons, Nat.succ_mul]
    omega
theorem allL_len (t : Tr) : ∀ (d : Nat) (c : List Int), (allL t d c).length = prodL t d c.length
  | 0, _ => rfl
  | d + 1, c => by
    unfold allL prodL
    rw [List.length_flatMap, sum_const _ (prodL t d (c.length + 1)) _ fun k _ => by rw [allL_len t d, List.length_append]; rfl, List.length_range]
theorem allL_mem (t : Tr) (x : List Int) : ∀ (d : Nat) (c : List Int), x ∈ allL t d c ↔ ∃ y, x = c ++ y ∧ y.length = d ∧ ∀ p, p < d → 0 ≤ y.getD p 0 ∧ y.getD p 0 ≤ (lenT t (c.length + p) : Int)
  | 0, c => by
    unfold allL
    rw [List.mem_singleton]
    constructor
    · rintro rfl; exact ⟨[], by simp, rfl, fun p hp => absurd hp (Nat.not_lt_zero _)⟩
    · rintro ⟨y, rfl, h, _⟩
      rw [List.eq_nil_of_length_eq_zero h, List.append_nil]
  | d + 1, c => by
    unfold allL
    rw [List.mem_flatMap]
    constructor
    · rintro ⟨k, hk, hx⟩
      obtain ⟨y, rfl, h1, h2⟩ := (allL_mem t x d _).1 hx
      have hk := List.mem_range.1 hk
      refine ⟨(k : Int) :: y, by simp, by simp [h1], fun p hp => ?_⟩
      cases p with
      | zero => simp only [List.getD_cons_zero, Nat.add_zero]; omega
      | succ p =>
        have := h2 p (by omega)
        rw [List.length_append, List.length_singleton] at this
        rw [List.getD_cons_succ, show c.length + (p + 1) = c.length + 1 + p by omega]
        exact this
    · rintro ⟨y, rfl, h1, h2⟩
      cases y with
      | nil => simp at h1
      | cons a y =>
        have h0 := h2 0 (by omega)
        simp only [List.getD_cons_zero, Nat.add_zero] at h0
        refine ⟨a.toNat, List.mem_range.2 (by omega), (allL_mem t _ d _).2 ⟨y, ?_, by simpa using h1, fun p hp => ?_⟩⟩
        · rw [show ((a.toNat : Nat) : Int) = a by omega, List.append_assoc]; rfl
        · have := h2 (p + 1) (by omega)
          rw [List.getD_cons_succ, show c.length + (p + 1) = c.length + 1 + p by omega] at this
          rw [List.length_append, List.length_singleton]
          exact this
theorem allL_nodup (t : Tr) : ∀ (d : Nat) (c : List Int), (allL t d c).Nodup
  | 0, c => by unfold allL; simp
  | d + 1, c => by
    unfold allL
    rw [List.nodup_iff_pairwise_ne, List.pairwise_flatMap]
    refine ⟨fun k _ => List.nodup_iff_pairwise_ne.1 (allL_nodup t d _), ?_⟩
    refine List.Pairwise.imp ?_ (List.nodup_iff_pairwise_ne.1 (List.nodup_range (n := lenT t c.length + 1)))
    intro k k' hne x hx y hy e
    refine hne ?_
    subst e
    obtain ⟨y1, e1, _⟩ := (allL_mem t x d _).1 hx
    obtain ⟨y2, e2, _⟩ := (allL_mem t x d _).1 hy
    rw [e1, List.append_assoc, List.append_assoc] at e2
    have := List.append_cancel_left e2
    injection this with h1 h2
    omega
/-- all cuts of a trace -/
theorem all_iff {t : Tr} (h : chk t = 0) (x : List Int) : x ∈ allL t t.1.toNat [] ↔ cutE t x = 0 := by
  have hp := (good_of h).procs
  rw [allL_mem]
  constructor
  · rintro ⟨y, rfl, h1, h2⟩
    exact cut_mk h (by omega) fun p hpl => by
      have := h2 p (by omega)
      rw [List.length_nil, Nat.zero_add] at this
      exact this
  · intro hc
    obtain ⟨_, h1, h2⟩ := cut_ok hc
    refine ⟨x, rfl, by omega, fun p hpl => ?_⟩
    rw [List.length_nil, Nat.zero_add]
    exact h2 p (by omega)
theorem cutsN_succ (t : Tr) (d : Nat) (c : List Int) : cutsN t (d + 1) c = ((List.range (lenT t c.length + 1)).map fun k => cutsN t d (c ++ [((k : Nat) : Int)])).sum := by
  unfold cutsN
  rw [allL, List.filter_flatMap, List.length_flatMap]
/-- the whole cuts -/
def wholeL (t : Tr) : List (List Int) := (allL t t.1.toNat []).filter (wholeB t)
theorem whole_mem {t : Tr} (h : chk t = 0) (x : List Int) : x ∈ wholeL t ↔ wholeP t x := by
  unfold wholeL wholeP
  rw [List.mem_filter, all_iff h]
theorem wholeL_nodup (t : Tr) : (wholeL t).Nodup := by
  unfold wholeL
  exact List.nodup_iff_pairwise_ne.2 ((List.nodup_iff_pairwise_ne.1 (allL_nodup t _ _)).filter _)
theorem countW_eq (t : Tr) : countW t = (wholeL t).length := rfl

/-! All whole cuts are reached, event by event. -/
theorem ofT_at {t : Tr} {p n : Nat} (h : n < lenT t p) : (ofT t (p : Int)).getD n 0 ∈ ofT t (p : Int) := by
  unfold lenT at h
  rw [List.getD_eq_getElem?_getD, List.getElem?_eq_getElem h]
  exact List.getElem_mem h
theorem takeC_iff {t : Tr} {c : List Int} {p : Nat} {x : Int} : x ∈ takeC t c p ↔ ∃ n : Nat, n < lenT t p ∧ n < (c.getD p 0).toNat ∧ x = (ofT t (p : Int)).getD n 0 := by
  unfold takeC lenT
  constructor
  · intro hx
    obtain ⟨n, hn⟩ := List.getElem?_of_mem hx
    obtain ⟨hl, e⟩ := List.getElem?_eq_some_iff.1 hn
    rw [List.length_take] at hl
    refine ⟨n, by omega, by omega, ?_⟩
    rw [List.getElem_take] at e
    rw [List.getD_eq_getElem?_getD, List.getElem?_eq_getElem (by omega), ← e]; rfl
  · rintro ⟨n, h1, h2, rfl⟩
    have e : (ofT t (p : Int)).getD n 0 = (ofT t (p : Int))[n] := by rw [List.getD_eq_getElem?_getD, List.getElem?_eq_getElem h1]; rfl
    rw [e]
    exact List.mem_take_iff_getElem.2 ⟨n, by omega, rfl⟩
theorem ofT_mono {t : Tr} {p a b : Nat} (hab : a < b) (hb : b < lenT t p) : (ofT t (p : Int)).getD a 0 < (ofT t (p : Int)).getD b 0 := by
  have h := ofU_sorted t.2.1 (p : Int) t.2.1.length
  unfold lenT at hb
  rw [List.getD_eq_getElem?_getD, List.getD_eq_getElem?_getD, List.getElem?_eq_getElem hb, List.getElem?_eq_getElem (by omega)]
  exact List.pairwise_iff_getElem.1 h a b _ _ hab
/-- the last event of a cut -/
theorem last_ev {t : Tr} {x : List Int} (hx : wholeP t x) (hpos : ∃ p, p < x.length ∧ 0 < x.getD p 0) :
    ∃ p n : Nat, p < x.length ∧ x.getD p 0 = (n : Int) + 1 ∧ n < lenT t p ∧ ∀ q, q < x.length → ∀ y ∈ takeC t x q, y ≤ (ofT t (p : Int)).getD n 0 := by
  obtain ⟨h0, hl, hb⟩ := cut_ok hx.1
  have key : ∀ k : Nat, (∀ q, q < x.length → ∀ y ∈ takeC t x q, y < (k : Int)) → ∃ p n : Nat, p < x.length ∧ x.getD p 0 = (n : Int) + 1 ∧ n < lenT t p ∧ ∀ q, q < x.length → ∀ y ∈ takeC t x q, y ≤ (ofT t (p : Int)).getD n 0 := by
    intro k
    induction k with
    | zero =>
      intro hk
      obtain ⟨p, hp, hpos⟩ := hpos
      have hbp := hb p hp
      have hm : (ofT t (p : Int)).getD 0 0 ∈ takeC t x p := takeC_iff.2 ⟨0, by unfold lenT; omega, by omega, rfl⟩
      have h1 := hk p hp _ hm
      have h2 := (takeC_mem hm).1
      omega
    | succ k ih =>
      intro hk
      by_cases hh : ∃ q, q < x.length ∧ (k : Int) ∈ takeC t x q
      · obtain ⟨p, hp, hm⟩ := hh
        obtain ⟨n, hn1, hn2, hn⟩ := takeC_iff.1 hm
        have hbp := hb p hp
        by_cases hlast : n + 1 < (x.getD p 0).toNat
        · have hl2 : n + 1 < lenT t p := by unfold lenT; omega
          have h1 := ofT_mono (t := t) (p := p) (a := n) (b := n + 1) (by omega) hl2
          have h2 := hk p hp _ (takeC_iff.2 ⟨n + 1, hl2, hlast, rfl⟩)
          omega
        · refine ⟨p, n, hp, by omega, hn1, fun q hq y hy => ?_⟩
          have := hk q hq y hy
          omega
      · refine ih fun q hq y hy => ?_
        have h1 := hk q hq y hy
        have h2 : y ≠ (k : Int) := fun e => hh ⟨q, hq, e ▸ hy⟩
        omega
  refine key t.2.1.length fun q _ y hy => (takeC_mem hy).2.1
theorem whole_less {t : Tr} {x : List Int} (hx : wholeP t x) {p n : Nat} (hp : p < x.length) (hn : x.getD p 0 = (n : Int) + 1) (hnl : n < lenT t p)
    (hlast : ∀ q, q < x.length → ∀ y ∈ takeC t x q, y ≤ (ofT t (p : Int)).getD n 0) : wholeP t (x.set p (n : Int)) := by
  obtain ⟨h0, hl, hb⟩ := cut_ok hx.1
  have g := good_of h0
  have hw := (whole_iff h0 x).1 hx.2
  have hat : ∀ q, (x.set p (n : Int)).getD q 0 = if p = q then (n : Int) else x.getD q 0 := fun q => getD_set_eq hp
  have hsub : ∀ q y, y ∈ takeC t (x.set p (n : Int)) q → y ∈ takeC t x q := by
    intro q y hy
    refine take_le ?_ hy
    rw [hat]
    split
    · rename_i e; subst e; omega
    · exact Int.le_refl _
  have hkeep : ∀ q y, y ∈ takeC t x q → y ≠ (ofT t (p : Int)).getD n 0 → y ∈ takeC t (x.set p (n : Int)) q := by
    intro q y hy hne
    obtain ⟨m, h1, h2, rfl⟩ := takeC_iff.1 hy
    refine takeC_iff.2 ⟨m, h1, ?_, rfl⟩
    rw [hat]
    split
    · rename_i e
      subst e
      have : m ≠ n := fun e => hne (by rw [e])
      omega
    · exact h2
  refine ⟨cut_mk h0 (by rw [List.length_set]; exact hl) fun q hq => ?_, (whole_iff h0 _).2 fun q hq y hy => ?_⟩
  · rw [List.length_set] at hq
    have := hb q hq
    rw [hat]
    split
    · rename_i e; subst e; unfold lenT at hnl; omega
    · exact this
  · rw [List.length_set] at hq
    have hy' := hsub q y hy
    have hwy := hw q hq y hy'
    rw [heard_iff] at hwy ⊢
    intro hf
    have h1 := hwy hf
    obtain ⟨r, hr, hm⟩ := (setN_bit t x _).1 h1
    refine (setN_bit t _ _).2 ⟨r, by rw [List.length_set]; exact hr, hkeep r _ hm fun e => ?_⟩
    have hy1 := takeC_mem hy'
    have hev := g.ev y.toNat (by omega)
    have h2 := hlast q hq y hy'
    omega
theorem reach {t : Tr} (h : chk t = 0) (S : List Int → Prop) (h0 : S (List.replicate t.1.toNat 0)) (hc : ∀ x, S x → ∀ p, p < t.1.toNat → wholeP t (x.set p (x.getD p 0 + 1)) → S (x.set p (x.getD p 0 + 1))) :
    ∀ (m : Nat) (x : List Int), sumC x ≤ m → wholeP t x → S x := by
  intro m
  have hpr := (good_of h).procs
  have base : ∀ x : List Int, wholeP t x → (¬ ∃ p, p < x.length ∧ 0 < x.getD p 0) → S x := by
    intro x hx hno
    obtain ⟨_, hl, hb⟩ := cut_ok hx.1
    have e : x = List.replicate t.1.toNat 0 := by
      refine List.ext_getElem (by simp; omega) fun p h1 h2 => ?_
      have h3 := hb p h1
      have h4 : ¬ 0 < x.getD p 0 := fun e => hno ⟨p, h1, e⟩
      rw [List.getElem_replicate]
      have h5 : x.getD p 0 = x[p] := by rw [List.getD_eq_getElem?_getD, List.getElem?_eq_getElem h1]; rfl
      omega
    rw [e]; exact h0
  induction m with
  | zero =>
    intro x hm hx
    refine base x hx ?_
    rintro ⟨p, hp, hpos⟩
    have := sum_set x p 0 hp (by omega)
    omega
  | succ m ih =>
    intro x hm hx
    by_cases hpos : ∃ p, p < x.length ∧ 0 < x.getD p 0
    · obtain ⟨p, n, hp, hn, hnl, hlast⟩ := last_ev hx hpos
      have hw := whole_less hx hp hn hnl hlast
      obtain ⟨_, hl, hb⟩ := cut_ok hx.1
      have hs := sum_set x p (n : Int) hp (by omega)
      have hS := ih _ (by omega) hw
      have e : (x.set p (n : Int)).set p ((x.set p (n : Int)).getD p 0 + 1) = x := by
        rw [getD_set_eq hp, if_pos rfl, List.set_set, ← hn, List.getD_eq_getElem?_getD, List.getElem?_eq_getElem hp]
        exact List.set_getElem_self hp
      have := hc _ hS p (by omega) (by rw [e]; exact hx)
      rw [e] at this
      exact this
    · exact base x hx hpos

/-! The list that the program finds. -/
/-- five numbers: a whole cut, and nothing behind it -/
def fiveP (t : Tr) (y : List Int) : Prop := y.length = 5 ∧ wholeP t (y.take t.1.toNat) ∧ ∀ p, t.1.toNat ≤ p → p < 5 → y.getD p 0 = 0
theorem getD_take {l : List Int} {n p : Nat} (h : p < n) : (l.take n).getD p 0 = l.getD p 0 := by
  rw [List.getD_eq_getElem?_getD, List.getD_eq_getElem?_getD, List.getElem?_take_of_lt h]
theorem five_inj {t : Tr} {x y : List Int} (hx : fiveP t x) (hy : fiveP t y) (h : x.take t.1.toNat = y.take t.1.toNat) : x = y := by
  refine List.ext_getElem (by rw [hx.1, hy.1]) fun p h1 h2 => ?_
  have e1 : x.getD p 0 = x[p] := by rw [List.getD_eq_getElem?_getD, List.getElem?_eq_getElem h1]; rfl
  have e2 : y.getD p 0 = y[p] := by rw [List.getD_eq_getElem?_getD, List.getElem?_eq_getElem h2]; rfl
  rw [← e1, ← e2]
  have l1 := hx.1
  by_cases hp : p < t.1.toNat
  · rw [← getD_take (l := x) hp, ← getD_take (l := y) hp, h]
  · rw [hx.2.2 p (by omega) (by omega), hy.2.2 p (by omega) (by omega)]
theorem take_nodup {t : Tr} {L : List (List Int)} (hn : L.Nodup) (hL : ∀ y ∈ L, fiveP t y) : (L.map fun y => y.take t.1.toNat).Nodup := by
  rw [List.nodup_iff_pairwise_ne, List.pairwise_map]
  refine List.Pairwise.imp_of_mem ?_ (List.nodup_iff_pairwise_ne.1 hn)
  intro a b ha hb hne e
  exact hne (five_inj (hL a ha) (hL b hb) e)
theorem found_le {t : Tr} (h : chk t = 0) {L : List (List Int)} (hn : L.Nodup) (hL : ∀ y ∈ L, fiveP t y) : L.length ≤ countW t := by
  have h1 := (take_nodup hn hL).length_le_of_subset (l₂ := wholeL t) fun x hx => by
    obtain ⟨y, hy, rfl⟩ := List.mem_map.1 hx
    exact (whole_mem h _).2 (hL y hy).2.1
  rw [List.length_map] at h1
  exact h1
theorem take_set {l : List Int} {n p : Nat} {v : Int} : (l.set p v).take n = (l.take n).set p v := List.take_set
theorem found_all {t : Tr} (h : chk t = 0) {L : List (List Int)} (hn : L.Nodup) (hL : ∀ y ∈ L, fiveP t y) (h0 : List.replicate 5 (0 : Int) ∈ L)
    (hc : ∀ y ∈ L, ∀ p, p < t.1.toNat → y.getD p 0 + 1 ≤ (lenT t p : Int) → wholeB t ((y.set p (y.getD p 0 + 1)).take t.1.toNat) = true → y.set p (y.getD p 0 + 1) ∈ L) : L.length = countW t := by
  have hpr := (good_of h).procs
  refine Nat.le_antisymm (found_le h hn hL) ?_
  have key := (wholeL_nodup t).length_le_of_subset (l₂ := L.map fun y => y.take t.1.toNat) fun x hx => by
    have hx := (whole_mem h _).1 hx
    refine reach h (fun x => x ∈ L.map fun y => y.take t.1.toNat) ?_ ?_ _ x (Nat.le_refl _) hx
    · exact List.mem_map.2 ⟨_, h0, by rw [List.take_replicate, Nat.min_eq_left (by omega)]⟩
    · intro z hz p hp hw
      obtain ⟨y, hy, rfl⟩ := List.mem_map.1 hz
      have hb := (cut_ok hw.1).2.2
      have hlen : (y.take t.1.toNat).length = t.1.toNat := by rw [List.length_take, (hL y hy).1]; omega
      have hbp := hb p (by rw [List.length_set, hlen]; exact hp)
      rw [getD_set_eq (by rw [hlen]; exact hp), if_pos rfl] at hbp
      rw [getD_take hp] at hw hbp ⊢
      rw [← take_set] at hw ⊢
      exact List.mem_map.2 ⟨_, hc y hy p hp hbp.2 hw.2, rfl⟩
  rw [List.length_map] at key
  exact key
theorem five_step {t : Tr} {y : List Int} (h : fiveP t y) {p : Nat} (hp : p < t.1.toNat) (hp5 : t.1.toNat ≤ 5) (hw : wholeP t ((y.set p (y.getD p 0 + 1)).take t.1.toNat)) : fiveP t (y.set p (y.getD p 0 + 1)) := by
  refine ⟨by rw [List.length_set]; exact h.1, hw, fun q hq hq5 => ?_⟩
  rw [getD_set_eq (by rw [h.1]; omega), if_neg (by omega)]
  exact h.2.2 q hq hq5
theorem lenT_le {t : Tr} (h : chk t = 0) (p : Nat) : lenT t p ≤ 24 := by
  have := ofU_len t.2.1 (p : Int) t.2.1.length
  have := (good_of h).len
  unfold lenT ofT
  omega
theorem prodL_le {t : Tr} (h : chk t = 0) : ∀ (d p : Nat), prodL t d p ≤ 25 ^ d
  | 0, _ => Nat.le_refl _
  | d + 1, p => by
    have h1 := prodL_le h d (p + 1)
    have h2 := lenT_le h p
    unfold prodL
    rw [Nat.pow_succ, Nat.mul_comm]
    exact Nat.mul_le_mul h1 (by omega)
theorem countW_le {t : Tr} : countW t ≤ prodL t t.1.toNat 0 := by
  rw [countW_eq]
  unfold wholeL
  exact Nat.le_trans (List.length_filter_le _ _) (Nat.le_of_eq (allL_len t _ _))
theorem zero_five {t : Tr} (h : chk t = 0) : fiveP t (List.replicate 5 0) := by
  have hpr := (good_of h).procs
  have e : (List.replicate 5 (0 : Int)).take t.1.toNat = List.replicate t.1.toNat 0 := by rw [List.take_replicate, Nat.min_eq_left (by omega)]
  have z : ∀ p n : Nat, (List.replicate n (0 : Int)).getD p 0 = 0 := fun p n => by
    rw [List.getD_eq_getElem?_getD, List.getElem?_replicate]; split <;> rfl
  refine ⟨rfl, ?_, fun p _ _ => z p 5⟩
  rw [e]
  refine ⟨cut_mk h (by rw [List.length_replicate]; omega) fun p _ => by rw [z]; omega, (whole_iff h _).2 fun p _ y hy => ?_⟩
  obtain ⟨n, _, h2, _⟩ := takeC_iff.1 hy
  rw [z] at h2
  exact absurd h2 (Nat.not_lt_zero _)

/-! As many as there are events, and one. -/
def preC (t : Tr) (m : Nat) : List Int := (List.range t.1.toNat).map fun (p : Nat) => ((ofU t.2.1 (p : Int) m).length : Int)
theorem ofU_add (l : List Ev) (p : Int) : ∀ (k m : Nat), ∃ r, ofU l p (m + k) = ofU l p m ++ r
  | 0, m => ⟨[], by simp⟩
  | k + 1, m => by
    obtain ⟨r, e⟩ := ofU_add l p k m
    rw [← Nat.add_assoc, ofU_succ, e, List.append_assoc]
    exact ⟨_, rfl⟩
theorem preC_len (t : Tr) (m : Nat) : (preC t m).length = t.1.toNat := by simp [preC]
theorem preC_at {t : Tr} {m p : Nat} (h : p < t.1.toNat) : (preC t m).getD p 0 = ((ofU t.2.1 (p : Int) m).length : Int) := by
  unfold preC
  rw [List.getD_eq_getElem?_getD, List.getElem?_map, List.getElem?_range h]; rfl
theorem pre_take {t : Tr} {m p : Nat} (hm : m ≤ t.2.1.length) (h : p < t.1.toNat) : takeC t (preC t m) p = ofU t.2.1 (p : Int) m := by
  unfold takeC
  rw [preC_at h, Int.toNat_natCast]
  obtain ⟨r, e⟩ := ofU_add t.2.1 (p : Int) (t.2.1.length - m) m
  rw [show m + (t.2.1.length - m) = t.2.1.length by omega] at e
  unfold ofT
  rw [e, List.take_left]
theorem ofU_mem {l : List Ev} {p x : Int} {m : Nat} : x ∈ ofU l p m ↔ ∃ i : Nat, i < m ∧ (l.getD i (0, 0, ())).1 = p ∧ x = (i : Int) := by
  unfold ofU
  rw [List.mem_map]
  constructor
  · rintro ⟨i, hi, rfl⟩
    obtain ⟨h1, h2⟩ := List.mem_filter.1 hi
    exact ⟨i, List.mem_range.1 h1, of_decide_eq_true h2, rfl⟩
  · rintro ⟨i, h1, h2, rfl⟩
    exact ⟨i, List.mem_filter.2 ⟨List.mem_range.2 h1, decide_eq_true h2⟩, rfl⟩
theorem pre_set {t : Tr} (h : chk t = 0) {m : Nat} (hm : m ≤ t.2.1.length) (i : Nat) : (setN t (preC t m)).testBit i = true ↔ i < m := by
  have g := good_of h
  rw [setN_bit]
  constructor
  · rintro ⟨p, hp, hi⟩
    rw [preC_len] at hp
    rw [pre_take hm hp] at hi
    obtain ⟨j, h1, _, h3⟩ := ofU_mem.1 hi
    omega
  · intro hi
    have hev := g.ev i (by omega)
    refine ⟨(t.2.1.getD i (0, 0, ())).1.toNat, by rw [preC_len]; omega, ?_⟩
    rw [pre_take hm (by omega)]
    exact ofU_mem.2 ⟨i, hi, by omega, rfl⟩
theorem pre_whole {t : Tr} (h : chk t = 0) {m : Nat} (hm : m ≤ t.2.1.length) : wholeP t (preC t m) := by
  have g := good_of h
  refine ⟨cut_mk h (by rw [preC_len]; have := g.procs; omega) fun p hp => ?_, (whole_iff h _).2 fun p hp y hy => ?_⟩
  · rw [preC_len] at hp
    rw [preC_at hp]
    obtain ⟨r, e⟩ := ofU_add t.2.1 (p : Int) (t.2.1.length - m) m
    rw [show m + (t.2.1.length - m) = t.2.1.length by omega] at e
    unfold ofT
    rw [e, List.length_append]
    omega
  · rw [preC_len] at hp
    rw [pre_take hm hp] at hy
    obtain ⟨j, h1, _, rfl⟩ := ofU_mem.1 hy
    rw [heard_iff]
    intro hf
    have hev := g.ev j (by omega)
    rw [pre_set h hm]
    rw [Int.toNat_natCast] at hf ⊢
    omega
theorem countW_ge {t : Tr} (h : chk t = 0) : t.2.1.length + 1 ≤ countW t := by
  have key := List.Nodup.length_le_of_subset (l₁ := (List.range (t.2.1.length + 1)).map (preC t)) (l₂ := wholeL t) ?_ fun x hx => ?_
  · rw [List.length_map, List.length_range] at key; exact key
  · rw [List.nodup_iff_pairwise_ne, List.pairwise_map]
    refine List.Pairwise.imp_of_mem ?_ (List.pairwise_lt_range (n := t.2.1.length + 1))
    intro a b ha hb hlt e
    have ha := List.mem_range.1 ha
    have hb := List.mem_range.1 hb
    have h1 := (pre_set h (m := b) (by omega) a).2 hlt
    rw [← e, pre_set h (by omega)] at h1
    omega
  · obtain ⟨m, hm, rfl⟩ := List.mem_map.1 hx
    have hm := List.mem_range.1 hm
    exact (whole_mem h _).2 (pre_whole h (by omega))
end Go.Proofs.YtbpoeigaoakdiaaDoor.H

/- What the functions of this seat have to satisfy, by program: each verification condition in plain words. -/
namespace Go.Proofs.YtbpoeigaoakdiaaDoor
open Go.Vc H
set_option linter.unusedVariables false
theorem vcLine (t : Tr) (c : List Int) (k : List Dat → Prop) : vcF ⟨Ez, [(52, cOfs), (31, cEvents), (59, cHas)], glT, [], []⟩ (anLine t c) (Tryd.f33.body.getD .skip) Tryd.f33.ntmps [(.tmp 4, .sl I), (.tmp 5, tErr)] [⟨tTr, t⟩, ⟨.sl I, c⟩] k = (
  True ∧ ((!decide (cutE t c = (0 : Int))) = true → k [Dat.mk (I).sl [], Dat.mk (Ty.err (71 : Nat)) (cutE t c)]) ∧ ((!decide (cutE t c = (0 : Int))) = false → c.length ≤ (1000000000 : Nat) ∧ (∃ (x : List Int), (lnP t c x ∧ cutE t c = (0 : Int)) ∧ (t = t ∧ c = c ∧ ([] : List Nat) = [] ∧ True ∧ (0 : Int) = (0 : Int) ∧ ((if cutE t c = (0 : Int) then rowsT t (Int.toNat t.fst) else []) = if cutE t c = (0 : Int) then rowsT t (Int.toNat t.fst) else []) ∧ True ∧ True) ∧ (((24 : Nat) = (24 : Nat) ∧ t = t) ∧ ((3 : Nat) = (3 : Nat) ∧ c = x) ∧ True) ∧ tabD = tabD ∧ True) ∧ ∀ (x : List Int), lnP t c x ∧ cutE t c = (0 : Int) → True ∧ ((!decide (cutE t x = (0 : Int))) = true → k [Dat.mk (I).sl [], Dat.mk (Ty.err (71 : Nat)) (cutE t x)]) ∧ ((!decide (cutE t x = (0 : Int))) = false → (∃ (x_1 : Nat × Bool × List Int), (x_1.fst ≤ c.length ∧ lnP t c x_1.snd.snd ∧ leC x_1.snd.snd x ∧ (x_1.snd.fst = false → x_1.snd.snd = x ∧ fineP t x x_1.fst) ∧ (x_1.snd.fst = true → sumC x_1.snd.snd < sumC x)) ∧ (t = t ∧ c = c ∧ ([] : List Nat) = [] ∧ True ∧ (0 : Int) = (0 : Int) ∧ ((if cutE t c = (0 : Int) then rowsT t (Int.toNat t.fst) else []) = if cutE t c = (0 : Int) then rowsT t (Int.toNat t.fst) else []) ∧ True ∧ setE t x = setE t x ∧ false = x_1.snd.fst ∧ (↑x.length : Int) = (↑x.length : Int) ∧ (0 : Int) = (↑x_1.fst : Int) ∧ True) ∧ (((24 : Nat) = (24 : Nat) ∧ t = t) ∧ ((3 : Nat) = (3 : Nat) ∧ x = x_1.snd.snd) ∧ True) ∧ tabD = tabD ∧ True) ∧ ∀ (x_1 : Nat × Bool × List Int), x_1.fst ≤ c.length ∧ lnP t c x_1.snd.snd ∧ leC x_1.snd.snd x ∧ (x_1.snd.fst = false → x_1.snd.snd = x ∧ fineP t x x_1.fst) ∧ (x_1.snd.fst = true → sumC x_1.snd.snd < sumC x) → (decide ((↑x_1.fst : Int) < (↑x.length : Int)) = true → ((0 : Int) ≤ (↑x_1.fst : Int) ∧ (↑x_1.fst : Int) < (↑(if cutE t c = (0 : Int) then rowsT t (Int.toNat t.fst) else []).length : Int) ∧ (0 : Int) ≤ (↑x_1.fst : Int) ∧ (↑x_1.fst : Int) < (↑x_1.snd.snd.length : Int) ∧ (0 : Int) ≤ (0 : Int) ∧ (0 : Int) ≤ x_1.snd.snd.getD (↑x_1.fst : Int).toNat (0 : Int) ∧ x_1.snd.snd.getD (↑x_1.fst : Int).toNat (0 : Int) ≤ (↑((if cutE t c = (0 : Int) then rowsT t (Int.toNat t.fst) else []).getD (↑x_1.fst : Int).toNat []).length : Int) ∧ True) ∧ (∃ (x_2 : Nat), (x_2 ≤ (takeC t x_1.snd.snd (↑x_1.fst : Int).toNat).length ∧ ∀ (y : Int), y ∈ List.take x_2 (takeC t x_1.snd.snd (↑x_1.fst : Int).toNat) → heard t.snd.fst (setE t x).toNat y = true) ∧ (t = t ∧ c = c ∧ ([] : List Nat) = [] ∧ True ∧ (0 : Int) = (0 : Int) ∧ ((if cutE t c = (0 : Int) then rowsT t (Int.toNat t.fst) else []) = if cutE t c = (0 : Int) then rowsT t (Int.toNat t.fst) else []) ∧ True ∧ setE t x = setE t x ∧ x_1.snd.fst = x_1.snd.fst ∧ (↑x_1.fst : Int) = (↑x_1.fst : Int) ∧ (↑x.length : Int) = (↑x.length : Int) ∧ (↑x_1.fst : Int) = (↑x_1.fst : Int) ∧ List.drop (Int.toNat (0 : Int)) (List.take (x_1.snd.snd.getD (↑x_1.fst : Int).toNat (0 : Int)).toNat ((if cutE t c = (0 : Int) then rowsT t (Int.toNat t.fst) else []).getD (↑x_1.fst : Int).toNat [])) = List.drop (Int.toNat (0 : Int)) (List.take (x_1.snd.snd.getD (↑x_1.fst : Int).toNat (0 : Int)).toNat ((if cutE t c = (0 : Int) then rowsT t (Int.toNat t.fst) else []).getD (↑x_1.fst : Int).toNat [])) ∧ (↑(List.drop (Int.toNat (0 : Int)) (List.take (x_1.snd.snd.getD (↑x_1.fst : Int).toNat (0 : Int)).toNat ((if cutE t c = (0 : Int) then rowsT t (Int.toNat t.fst) else []).getD (↑x_1.fst : Int).toNat []))).length : Int) = (↑(List.drop (Int.toNat (0 : Int)) (List.take (x_1.snd.snd.getD (↑x_1.fst : Int).toNat (0 : Int)).toNat ((if cutE t c = (0 : Int) then rowsT t (Int.toNat t.fst) else []).getD (↑x_1.fst : Int).toNat []))).length : Int) ∧ (0 : Int) = (↑x_2 : Int) ∧ True) ∧ (((24 : Nat) = (24 : Nat) ∧ t = t) ∧ ((3 : Nat) = (3 : Nat) ∧ x_1.snd.snd = x_1.snd.snd) ∧ True) ∧ tabD = tabD ∧ True) ∧ ∀ (x_2 : Nat), (x_2 ≤ (takeC t x_1.snd.snd (↑x_1.fst : Int).toNat).length ∧ ∀ (y : Int), y ∈ List.take x_2 (takeC t x_1.snd.snd (↑x_1.fst : Int).toNat) → heard t.snd.fst (setE t x).toNat y = true) → (decide ((↑x_2 : Int) < (↑(List.drop (Int.toNat (0 : Int)) (List.take (x_1.snd.snd.getD (↑x_1.fst : Int).toNat (0 : Int)).toNat ((if cutE t c = (0 : Int) then rowsT t (Int.toNat t.fst) else []).getD (↑x_1.fst : Int).toNat []))).length : Int)) = true → (0 : Int) ≤ (↑x_2 : Int) ∧ (↑x_2 : Int) < (↑(List.drop (Int.toNat (0 : Int)) (List.take (x_1.snd.snd.getD (↑x_1.fst : Int).toNat (0 : Int)).toNat ((if cutE t c = (0 : Int) then rowsT t (Int.toNat t.fst) else []).getD (↑x_1.fst : Int).toNat []))).length : Int) ∧ (0 : Int) ≤ (List.drop (Int.toNat (0 : Int)) (List.take (x_1.snd.snd.getD (↑x_1.fst : Int).toNat (0 : Int)).toNat ((if cutE t c = (0 : Int) then rowsT t (Int.toNat t.fst) else []).getD (↑x_1.fst : Int).toNat []))).getD (↑x_2 : Int).toNat (0 : Int) ∧ (List.drop (Int.toNat (0 : Int)) (List.take (x_1.snd.snd.getD (↑x_1.fst : Int).toNat (0 : Int)).toNat ((if cutE t c = (0 : Int) then rowsT t (Int.toNat t.fst) else []).getD (↑x_1.fst : Int).toNat []))).getD (↑x_2 : Int).toNat (0 : Int) < (↑(List.length t.snd.fst) : Int) ∧ (decide ((0 : Int) ≤ (List.getD t.snd.fst ((List.drop (Int.toNat (0 : Int)) (List.take (x_1.snd.snd.getD (↑x_1.fst : Int).toNat (0 : Int)).toNat ((if cutE t c = (0 : Int) then rowsT t (Int.toNat t.fst) else []).getD (↑x_1.fst : Int).toNat []))).getD (↑x_2 : Int).toNat (0 : Int)).toNat ((0 : Int), (0 : Int), ())).snd.fst) = true → (((0 : Int) ≤ setE t x ∧ (0 : Int) ≤ (List.getD t.snd.fst ((List.drop (Int.toNat (0 : Int)) (List.take (x_1.snd.snd.getD (↑x_1.fst : Int).toNat (0 : Int)).toNat ((if cutE t c = (0 : Int) then rowsT t (Int.toNat t.fst) else []).getD (↑x_1.fst : Int).toNat []))).getD (↑x_2 : Int).toNat (0 : Int)).toNat ((0 : Int), (0 : Int), ())).snd.fst ∧ (List.getD t.snd.fst ((List.drop (Int.toNat (0 : Int)) (List.take (x_1.snd.snd.getD (↑x_1.fst : Int).toNat (0 : Int)).toNat ((if cutE t c = (0 : Int) then rowsT t (Int.toNat t.fst) else []).getD (↑x_1.fst : Int).toNat []))).getD (↑x_2 : Int).toNat (0 : Int)).toNat ((0 : Int), (0 : Int), ())).snd.fst < (64 : Int)) ∧ True) ∧ ((!(setE t x).toNat.testBit (Int.toNat (List.getD t.snd.fst ((List.drop (Int.toNat (0 : Int)) (List.take (x_1.snd.snd.getD (↑x_1.fst : Int).toNat (0 : Int)).toNat ((if cutE t c = (0 : Int) then rowsT t (Int.toNat t.fst) else []).getD (↑x_1.fst : Int).toNat []))).getD (↑x_2 : Int).toNat (0 : Int)).toNat ((0 : Int), (0 : Int), ())).snd.fst)) = true → (0 : Int) ≤ (↑x_1.fst : Int) ∧ (↑x_1.fst : Int) < (↑x_1.snd.snd.length : Int) ∧ inK IntKind.i64 ((↑x_1.fst : Int) + (1 : Int)) ∧ ∃ (x_3 : Nat × Bool × List Int), (x_3.fst ≤ c.length ∧ lnP t c x_3.snd.snd ∧ leC x_3.snd.snd x ∧ (x_3.snd.fst = false → x_3.snd.snd = x ∧ fineP t x x_3.fst) ∧ (x_3.snd.fst = true → sumC x_3.snd.snd < sumC x)) ∧ c.length - x_3.fst < c.length - x_1.fst ∧ (t = t ∧ c = c ∧ ([] : List Nat) = [] ∧ True ∧ (0 : Int) = (0 : Int) ∧ ((if cutE t c = (0 : Int) then rowsT t (Int.toNat t.fst) else []) = if cutE t c = (0 : Int) then rowsT t (Int.toNat t.fst) else []) ∧ True ∧ setE t x = setE t x ∧ true = x_3.snd.fst ∧ (↑x.length : Int) = (↑x.length : Int) ∧ (↑x_1.fst : Int) + (1 : Int) = (↑x_3.fst : Int) ∧ True) ∧ (((24 : Nat) = (24 : Nat) ∧ t = t) ∧ ((3 : Nat) = (3 : Nat) ∧ x_1.snd.snd.set (↑x_1.fst : Int).toNat (↑x_2 : Int) = x_3.snd.snd) ∧ True) ∧ tabD = tabD ∧ True) ∧ ((!(setE t x).toNat.testBit (Int.toNat (List.getD t.snd.fst ((List.drop (Int.toNat (0 : Int)) (List.take (x_1.snd.snd.getD (↑x_1.fst : Int).toNat (0 : Int)).toNat ((if cutE t c = (0 : Int) then rowsT t (Int.toNat t.fst) else []).getD (↑x_1.fst : Int).toNat []))).getD (↑x_2 : Int).toNat (0 : Int)).toNat ((0 : Int), (0 : Int), ())).snd.fst)) = false → inK IntKind.i64 ((↑x_2 : Int) + (1 : Int)) ∧ ∃ (x_3 : Nat), (x_3 ≤ (takeC t x_1.snd.snd (↑x_1.fst : Int).toNat).length ∧ ∀ (y : Int), y ∈ List.take x_3 (takeC t x_1.snd.snd (↑x_1.fst : Int).toNat) → heard t.snd.fst (setE t x).toNat y = true) ∧ c.length + t.snd.fst.length - x_3 < c.length + t.snd.fst.length - x_2 ∧ (t = t ∧ c = c ∧ ([] : List Nat) = [] ∧ True ∧ (0 : Int) = (0 : Int) ∧ ((if cutE t c = (0 : Int) then rowsT t (Int.toNat t.fst) else []) = if cutE t c = (0 : Int) then rowsT t (Int.toNat t.fst) else []) ∧ True ∧ setE t x = setE t x ∧ x_1.snd.fst = x_1.snd.fst ∧ (↑x_1.fst : Int) = (↑x_1.fst : Int) ∧ (↑x.length : Int) = (↑x.length : Int) ∧ (↑x_1.fst : Int) = (↑x_1.fst : Int) ∧ List.drop (Int.toNat (0 : Int)) (List.take (x_1.snd.snd.getD (↑x_1.fst : Int).toNat (0 : Int)).toNat ((if cutE t c = (0 : Int) then rowsT t (Int.toNat t.fst) else []).getD (↑x_1.fst : Int).toNat [])) = List.drop (Int.toNat (0 : Int)) (List.take (x_1.snd.snd.getD (↑x_1.fst : Int).toNat (0 : Int)).toNat ((if cutE t c = (0 : Int) then rowsT t (Int.toNat t.fst) else []).getD (↑x_1.fst : Int).toNat [])) ∧ (↑(List.drop (Int.toNat (0 : Int)) (List.take (x_1.snd.snd.getD (↑x_1.fst : Int).toNat (0 : Int)).toNat ((if cutE t c = (0 : Int) then rowsT t (Int.toNat t.fst) else []).getD (↑x_1.fst : Int).toNat []))).length : Int) = (↑(List.drop (Int.toNat (0 : Int)) (List.take (x_1.snd.snd.getD (↑x_1.fst : Int).toNat (0 : Int)).toNat ((if cutE t c = (0 : Int) then rowsT t (Int.toNat t.fst) else []).getD (↑x_1.fst : Int).toNat []))).length : Int) ∧ (↑x_2 : Int) + (1 : Int) = (↑x_3 : Int) ∧ True) ∧ (((24 : Nat) = (24 : Nat) ∧ t = t) ∧ ((3 : Nat) = (3 : Nat) ∧ x_1.snd.snd = x_1.snd.snd) ∧ True) ∧ tabD = tabD ∧ True)) ∧ (decide ((0 : Int) ≤ (List.getD t.snd.fst ((List.drop (Int.toNat (0 : Int)) (List.take (x_1.snd.snd.getD (↑x_1.fst : Int).toNat (0 : Int)).toNat ((if cutE t c = (0 : Int) then rowsT t (Int.toNat t.fst) else []).getD (↑x_1.fst : Int).toNat []))).getD (↑x_2 : Int).toNat (0 : Int)).toNat ((0 : Int), (0 : Int), ())).snd.fst) = false → inK IntKind.i64 ((↑x_2 : Int) + (1 : Int)) ∧ ∃ (x_3 : Nat), (x_3 ≤ (takeC t x_1.snd.snd (↑x_1.fst : Int).toNat).length ∧ ∀ (y : Int), y ∈ List.take x_3 (takeC t x_1.snd.snd (↑x_1.fst : Int).toNat) → heard t.snd.fst (setE t x).toNat y = true) ∧ c.length + t.snd.fst.length - x_3 < c.length + t.snd.fst.length - x_2 ∧ (t = t ∧ c = c ∧ ([] : List Nat) = [] ∧ True ∧ (0 : Int) = (0 : Int) ∧ ((if cutE t c = (0 : Int) then rowsT t (Int.toNat t.fst) else []) = if cutE t c = (0 : Int) then rowsT t (Int.toNat t.fst) else []) ∧ True ∧ setE t x = setE t x ∧ x_1.snd.fst = x_1.snd.fst ∧ (↑x_1.fst : Int) = (↑x_1.fst : Int) ∧ (↑x.length : Int) = (↑x.length : Int) ∧ (↑x_1.fst : Int) = (↑x_1.fst : Int) ∧ List.drop (Int.toNat (0 : Int)) (List.take (x_1.snd.snd.getD (↑x_1.fst : Int).toNat (0 : Int)).toNat ((if cutE t c = (0 : Int) then rowsT t (Int.toNat t.fst) else []).getD (↑x_1.fst : Int).toNat [])) = List.drop (Int.toNat (0 : Int)) (List.take (x_1.snd.snd.getD (↑x_1.fst : Int).toNat (0 : Int)).toNat ((if cutE t c = (0 : Int) then rowsT t (Int.toNat t.fst) else []).getD (↑x_1.fst : Int).toNat [])) ∧ (↑(List.drop (Int.toNat (0 : Int)) (List.take (x_1.snd.snd.getD (↑x_1.fst : Int).toNat (0 : Int)).toNat ((if cutE t c = (0 : Int) then rowsT t (Int.toNat t.fst) else []).getD (↑x_1.fst : Int).toNat []))).length : Int) = (↑(List.drop (Int.toNat (0 : Int)) (List.take (x_1.snd.snd.getD (↑x_1.fst : Int).toNat (0 : Int)).toNat ((if cutE t c = (0 : Int) then rowsT t (Int.toNat t.fst) else []).getD (↑x_1.fst : Int).toNat []))).length : Int) ∧ (↑x_2 : Int) + (1 : Int) = (↑x_3 : Int) ∧ True) ∧ (((24 : Nat) = (24 : Nat) ∧ t = t) ∧ ((3 : Nat) = (3 : Nat) ∧ x_1.snd.snd = x_1.snd.snd) ∧ True) ∧ tabD = tabD ∧ True)) ∧ (decide ((↑x_2 : Int) < (↑(List.drop (Int.toNat (0 : Int)) (List.take (x_1.snd.snd.getD (↑x_1.fst : Int).toNat (0 : Int)).toNat ((if cutE t c = (0 : Int) then rowsT t (Int.toNat t.fst) else []).getD (↑x_1.fst : Int).toNat []))).length : Int)) = false → inK IntKind.i64 ((↑x_1.fst : Int) + (1 : Int)) ∧ ∃ (x_3 : Nat × Bool × List Int), (x_3.fst ≤ c.length ∧ lnP t c x_3.snd.snd ∧ leC x_3.snd.snd x ∧ (x_3.snd.fst = false → x_3.snd.snd = x ∧ fineP t x x_3.fst) ∧ (x_3.snd.fst = true → sumC x_3.snd.snd < sumC x)) ∧ c.length - x_3.fst < c.length - x_1.fst ∧ (t = t ∧ c = c ∧ ([] : List Nat) = [] ∧ True ∧ (0 : Int) = (0 : Int) ∧ ((if cutE t c = (0 : Int) then rowsT t (Int.toNat t.fst) else []) = if cutE t c = (0 : Int) then rowsT t (Int.toNat t.fst) else []) ∧ True ∧ setE t x = setE t x ∧ x_1.snd.fst = x_3.snd.fst ∧ (↑x.length : Int) = (↑x.length : Int) ∧ (↑x_1.fst : Int) + (1 : Int) = (↑x_3.fst : Int) ∧ True) ∧ (((24 : Nat) = (24 : Nat) ∧ t = t) ∧ ((3 : Nat) = (3 : Nat) ∧ x_1.snd.snd = x_3.snd.snd) ∧ True) ∧ tabD = tabD ∧ True)) ∧ (decide ((↑x_1.fst : Int) < (↑x.length : Int)) = false → ((!x_1.snd.fst) = true → k [Dat.mk (I).sl x_1.snd.snd, Dat.mk (Ty.err (71 : Nat)) (0 : Int)]) ∧ ((!x_1.snd.fst) = false → ∃ (x_2 : List Int), (lnP t c x_2 ∧ cutE t c = (0 : Int)) ∧ sumC x_2 < sumC x ∧ (t = t ∧ c = c ∧ ([] : List Nat) = [] ∧ True ∧ (0 : Int) = (0 : Int) ∧ ((if cutE t c = (0 : Int) then rowsT t (Int.toNat t.fst) else []) = if cutE t c = (0 : Int) then rowsT t (Int.toNat t.fst) else []) ∧ True ∧ True) ∧ (((24 : Nat) = (24 : Nat) ∧ t = t) ∧ ((3 : Nat) = (3 : Nat) ∧ x_1.snd.snd = x_2) ∧ True) ∧ tabD = tabD ∧ True))))) := by kernel_rfl
theorem vcFact (k : List Dat → Prop) : vcF ⟨Ez, [(51, cTalk), (32, cIs)], glT, [], []⟩ [] (Tryd.f24.body.getD .skip) Tryd.f24.ntmps [(.tmp 0, .bool)] [] k = (
  True ∧ True ∧ True ∧ True ∧ (decide (cutE talkT (((List.replicate (2 : Nat) (0 : Int)).set (0 : Nat) (0 : Int)).set (1 : Nat) (1 : Int)) = (0 : Int)) = true → (decide (cutE talkT (((List.replicate (2 : Nat) (0 : Int)).set (0 : Nat) (1 : Int)).set (1 : Nat) (1 : Int)) = (0 : Int)) = true → ((!if cutE talkT (((List.replicate (2 : Nat) (0 : Int)).set (0 : Nat) (0 : Int)).set (1 : Nat) (1 : Int)) = (0 : Int) then wholeB talkT (((List.replicate (2 : Nat) (0 : Int)).set (0 : Nat) (0 : Int)).set (1 : Nat) (1 : Int)) else false) = true → k [Dat.mk Ty.bool (if cutE talkT (((List.replicate (2 : Nat) (0 : Int)).set (0 : Nat) (1 : Int)).set (1 : Nat) (1 : Int)) = (0 : Int) then wholeB talkT (((List.replicate (2 : Nat) (0 : Int)).set (0 : Nat) (1 : Int)).set (1 : Nat) (1 : Int)) else false)]) ∧ ((!if cutE talkT (((List.replicate (2 : Nat) (0 : Int)).set (0 : Nat) (0 : Int)).set (1 : Nat) (1 : Int)) = (0 : Int) then wholeB talkT (((List.replicate (2 : Nat) (0 : Int)).set (0 : Nat) (0 : Int)).set (1 : Nat) (1 : Int)) else false) = false → k [Dat.mk Ty.bool false])) ∧ (decide (cutE talkT (((List.replicate (2 : Nat) (0 : Int)).set (0 : Nat) (1 : Int)).set (1 : Nat) (1 : Int)) = (0 : Int)) = false → k [Dat.mk Ty.bool false])) ∧ (decide (cutE talkT (((List.replicate (2 : Nat) (0 : Int)).set (0 : Nat) (0 : Int)).set (1 : Nat) (1 : Int)) = (0 : Int)) = false → k [Dat.mk Ty.bool false])) := by kernel_rfl
end Go.Proofs.YtbpoeigaoakdiaaDoor

/- Cuts: the line. -/
namespace Go.Proofs.YtbpoeigaoakdiaaDoor.H
open Go.Vc

theorem line_vc (t : Tr) (c : List Int) (k : List Dat → Prop) (hk1 : cutE t c = 0 → ∀ l : List Int, lineP t c l → k [⟨.sl I, l⟩, ⟨tErr, (0 : Int)⟩]) (hk2 : cutE t c ≠ 0 → k [⟨.sl I, ([] : List Int)⟩, ⟨tErr, cutE t c⟩]) :
    vcF ⟨Ez, [(52, cOfs), (31, cEvents), (59, cHas)], glT, [], []⟩ (anLine t c) (Tryd.f33.body.getD .skip) Tryd.f33.ntmps [(.tmp 4, .sl I), (.tmp 5, tErr)] [⟨tTr, t⟩, ⟨.sl I, c⟩] k := by
  rw [vcLine]
  simp only [decide_eq_true_eq, decide_eq_false_iff_not, and_true, true_and, Bool.not_eq_true', Bool.not_eq_false', Int.toNat_natCast]
  refine ⟨hk2, fun h => ?_⟩
  obtain ⟨h1, h2, h3⟩ := cut_ok h
  have g := good_of h1
  have hl := g.len
  have hpr := g.procs
  have hif : (if cutE t c = 0 then rowsT t t.1.toNat else []) = rowsT t t.1.toNat := if_pos h
  have hk1 := hk1 h
  simp only [hif, rowsT_len]
  simp only [h, and_true]
  have ln0 : lnP t c c := ⟨h, ⟨rfl, fun _ _ => Int.le_refl _⟩, fun d _ hd => hd⟩
  refine ⟨by omega, ⟨c, ln0, rfl⟩, fun x hx => ⟨fun hne => absurd hx.1 hne, fun hxe => ?_⟩⟩
  obtain ⟨k1, k2, k3⟩ := cut_ok hx.1
  have hS : (setE t x).toNat = setN t x := by unfold setE; rw [if_pos hx.1]; exact Int.toNat_natCast _
  have hS0 : 0 ≤ setE t x := by unfold setE; rw [if_pos hx.1]; exact Int.natCast_nonneg _
  rw [hS]
  refine ⟨⟨(0, false, x), ⟨by omega, hx, ⟨rfl, fun _ _ => Int.le_refl _⟩, fun _ => ⟨rfl, fun p hp => by omega⟩, (fun h => by cases h)⟩, ⟨rfl, rfl⟩, rfl⟩, fun y ⟨y1, y2, y3, y4, y5⟩ => ⟨fun hlt => ?_, fun hge => ?_⟩⟩
  · obtain ⟨p, ag, l⟩ := y
    simp only at *
    obtain ⟨m1, m2, m3⟩ := cut_ok y2.1
    have hpl : p < l.length := by have := y3.1; omega
    have hpt : p < t.1.toNat := by omega
    have hlp := m3 p hpl
    have htk : List.drop (Int.toNat (0 : Int)) (List.take (l.getD p 0).toNat (ofT t (p : Int))) = takeC t l p := rfl
    simp only [rowsT_getD t hpt, htk]
    refine ⟨⟨by omega, by omega, by omega, by omega, by omega, hlp.1, hlp.2⟩, ⟨0, ⟨by omega, fun z hz => by simp at hz⟩, rfl⟩, fun n ⟨n1, n2⟩ => ⟨fun hnlt => ?_, fun hnge => ⟨inK_i64.2 (by omega), ?_⟩⟩⟩
    · have hnl : n < (takeC t l p).length := by omega
      have hlen : (takeC t l p).length ≤ t.2.1.length := by
        have h1 := (takeC_len t l p).2
        have h2 := ofU_len t.2.1 (p : Int) t.2.1.length
        unfold ofT at h1
        omega
      have hm : (takeC t l p).getD n 0 ∈ takeC t l p := by rw [getD_at hnl]; exact List.getElem_mem hnl
      have hmm := takeC_mem hm
      have hev := g.ev ((takeC t l p).getD n 0).toNat (by omega)
      have hext : heard t.2.1 (setN t x) ((takeC t l p).getD n 0) = true → ∀ z ∈ (takeC t l p).take (n + 1), heard t.2.1 (setN t x) z = true := by
        intro hh z hz
        rw [take_snoc hnl] at hz
        rcases List.mem_append.1 hz with hz | hz
        · exact n2 z hz
        · rw [List.mem_singleton.1 hz]; exact hh
      refine ⟨by omega, by omega, hmm.1, hmm.2.1, fun h0 => ⟨⟨hS0, h0, by omega⟩, fun hb => ⟨by omega, by omega, inK_i64.2 (by omega), (p + 1, true, l.set p (n : Int)), ⟨by simp only; omega, ?_, ?_, (fun h => by cases h), fun _ => ?_⟩, by simp only; omega, ⟨rfl, by simp only; omega⟩, rfl⟩, fun hb => ⟨inK_i64.2 (by omega), n + 1, ⟨by omega, hext ?_⟩, by omega, by omega⟩⟩, fun h0 => ⟨inK_i64.2 (by omega), n + 1, ⟨by omega, hext ?_⟩, by omega, by omega⟩⟩
      · refine line_step y2 y3 hpl hnl ?_
        cases hh : heard t.2.1 (setN t x) ((takeC t l p).getD n 0) with
        | false => rfl
        | true =>
          have := heard_iff.1 hh h0
          rw [hb] at this; cases this
      · have htl := (takeC_len t l p).1
        refine ⟨by rw [List.length_set]; exact y3.1, fun q hq => ?_⟩
        rw [List.length_set] at hq
        rw [getD_set_eq hpl]
        have := y3.2 q hq
        split
        · rename_i e; subst e; omega
        · exact this
      · have htl := (takeC_len t l p).1
        have h1 := sum_set l p (n : Int) hpl (by omega)
        show sumC (l.set p (n : Int)) < sumC x
        cases ag with
        | true => have := y5 rfl; omega
        | false =>
          have e : l = x := (y4 rfl).1
          rw [← e]; exact h1
      · exact heard_iff.2 fun _ => hb
      · exact heard_iff.2 fun h => absurd h h0
    · refine ⟨(p + 1, ag, l), ⟨by simp only; omega, y2, y3, fun ha => ⟨(y4 ha).1, fun q hq z hz => ?_⟩, y5⟩, by simp only; omega, ⟨rfl, by simp only; omega⟩, rfl⟩
      rcases Nat.lt_or_ge q p with hqp | hqp
      · exact (y4 ha).2 q hqp z hz
      · have hqe : q = p := by omega
        subst hqe
        have hnl : n = (takeC t l q).length := by omega
        rw [hnl, List.take_length] at n2
        rw [← (y4 ha).1] at hz
        exact n2 z hz
  · obtain ⟨p, ag, l⟩ := y
    simp only at *
    refine ⟨fun ha => ?_, fun ha => ⟨l, y2, y5 ha, rfl⟩⟩
    obtain ⟨e, hf⟩ := y4 ha
    subst e
    exact hk1 l ⟨hx, (whole_iff h1 l).2 fun q hq => hf q (by omega)⟩

theorem okLine : PlainOk Tryd.prog glT 33 cLine := by
  refine plain_of (CxOk.mk' Ez_ok rfl mixed (gl := glT) (GOk.cons okOfs Tryd.func52 (by kernel_rfl) (by kernel_rfl) (GOk.cons okEvents Tryd.func31 (by kernel_rfl) (by kernel_rfl) (GOk.cons okHas Tryd.func59 (by kernel_rfl) (by kernel_rfl) GOk.nil))) GoOk.nil noIt) Tryd.func33 (c := Tryd.f33.body.getD .skip) (rvs := [(.tmp 4, .sl I), (.tmp 5, tErr)]) (by kernel_rfl) (by kernel_rfl) (by kernel_rfl) ?_
  intro ds k hs hwf
  obtain ⟨t, c, rfl, h⟩ := gdest2 hs
  refine ⟨anLine t c, line_vc t c k (fun h0 l hl => ?_) fun h0 => h [] (fun e => absurd e h0) fun _ => rfl⟩
  have := h l (fun _ => hl) fun e => absurd h0 e
  rw [h0] at this; exact this

theorem okFact : PlainOk Tryd.prog glT 24 cFact := by
  refine plain_of (CxOk.mk' Ez_ok rfl mixed (gl := glT) (GOk.cons (lift okTalk) Tryd.func51 (by kernel_rfl) (by kernel_rfl) (GOk.cons okIs Tryd.func32 (by kernel_rfl) (by kernel_rfl) GOk.nil)) GoOk.nil noIt) Tryd.func24 (c := Tryd.f24.body.getD .skip) (rvs := [(.tmp 0, .bool)]) (by kernel_rfl) (by kernel_rfl) (by kernel_rfl) ?_
  intro ds k ⟨hp, hk⟩ hwf
  obtain ⟨rfl, -⟩ := dest0 hp
  have hk : k [⟨.bool, true⟩] := hk
  refine ⟨[], ?_⟩
  rw [vcFact]
  have e1 : cutE talkT [0, 1] = 0 := by decide +kernel
  have e2 : cutE talkT [1, 1] = 0 := by decide +kernel
  have w1 : wholeB talkT [0, 1] = false := by decide +kernel
  have w2 : wholeB talkT [1, 1] = true := by decide +kernel
  have l1 : ((List.replicate 2 (0 : Int)).set 0 0).set 1 1 = [0, 1] := rfl
  have l2 : ((List.replicate 2 (0 : Int)).set 0 1).set 1 1 = [1, 1] := rfl
  simp only [l1, l2, e1, e2, w1, w2, if_true]
  exact ⟨trivial, trivial, trivial, trivial, fun _ => ⟨fun _ => ⟨fun _ => hk, fun h => by cases h⟩, fun h => by cases h⟩, fun h => by cases h⟩
end Go.Proofs.YtbpoeigaoakdiaaDoor.H

/- The queue of things that are found; how many whole cuts there are: what the functions answer. -/
namespace Go.Proofs.YtbpoeigaoakdiaaDoor.H
open Go.Vc
abbrev tK : Ty := .ar 5 I
abbrev LL := List (List Int)
def Eq : Env := { tys := [(3, I), (4, .bool), (5, .int .u8), (22, .sl tEv), (24, tTr), (28, tErr), (30, .sl I), (70, tEv), (74, tK), (61, .sl (.sl I)), (88, .nm), (89, .sl tK), (91, .pr .nm (.pr (.sl tK) .un))], errT := 71, eqs := [], els := [(22, 70), (30, 3), (61, 30), (89, 74)], mps := [(88, (74, 3))], pz := [7], sa := [22] }
theorem Eq_ok : EnvOk Tryd.prog Eq := EnvOk.of_list (by kernel_rfl) (by kernel_rfl) (by kernel_rfl)
/-- where what was found stands -/
def mpE (L : LL) (n : Nat) : List (List Int × Int) := match L with
  | [] => []
  | x :: r => (x, (n : Int)) :: mpE r (n + 1)
def addL (L : LL) (c : List Int) : LL := if L.contains c = true then L else L ++ [c]
def ans2 (n : Int) (b : Bool) : SV := .tp [.d (.int .i64) n, .d .bool b]
def qOb (L : LL) : List Ob := [.st 91 [.os 1, .os 2], .mp 5 I (mpE L 0), .row 74 tK L]
def q0 : List Ob := [.st 91 [.d .nm Ty.nm.z, .nils]]
def oAdd : OCtr := fun args ob k =>
  match args, ob with
  | [.ps 0, .d (.ar 5 (.int .i64)) c], [.st 91 [.os 1, .os 2], .mp 5 (.int .i64) es, .row 74 (.ar 5 (.int .i64)) L] => es = mpE L 0 ∧ (L : LL).length < 1000000000 ∧ ∀ (n : Int) (b : Bool), k (ans2 n b) (qOb (addL L c))
  | [.ps 0, .d (.ar 5 (.int .i64)) c], [.st 91 [.d .nm _, .nils]] => ∀ (n : Int) (b : Bool), k (ans2 n b) (qOb [c])
  | _, _ => False
def oLen : OCtr := fun args ob k =>
  match args, ob with
  | [.ps 0], [.st 91 [.os 1, .os 2], .mp 5 (.int .i64) es, .row 74 (.ar 5 (.int .i64)) L] => es = mpE L 0 ∧ k (.d (.int .i64) ((L : LL).length : Int)) (qOb L)
  | _, _ => False
def oAt : OCtr := fun args ob k =>
  match args, ob with
  | [.ps 0, .d (.int .i64) i], [.st 91 [.os 1, .os 2], .mp 5 (.int .i64) es, .row 74 (.ar 5 (.int .i64)) L] => es = mpE L 0 ∧ (0 : Int) ≤ i ∧ (i : Int) < ((L : LL).length : Int) ∧ k (.d (.ar 5 (.int .i64)) ((L : LL).getD (i : Int).toNat (List.replicate 5 0))) (qOb L)
  | _, _ => False
/-- what was found so far -/
structure foundP (t : Tr) (L : LL) : Prop where
  nd : L.Nodup
  five : ∀ y ∈ L, fiveP t y
  zero : List.replicate 5 (0 : Int) ∈ L
def stepOk (t : Tr) (L : LL) (y : List Int) (p : Nat) : Prop :=
  y.getD p 0 + 1 ≤ (lenT t p : Int) → wholeB t ((y.set p (y.getD p 0 + 1)).take t.1.toNat) = true → y.set p (y.getD p 0 + 1) ∈ L
def closedTo (t : Tr) (L : LL) (n : Nat) : Prop := ∀ i, i < n → ∀ p, p < t.1.toNat → stepOk t L (L.getD i []) p
def closedAt (t : Tr) (L : LL) (i n : Nat) : Prop := ∀ p, p < n → stepOk t L (L.getD i []) p
def cCount : Ctr := cdet [tTr] (fun _ => True) (fun t => [⟨I, if chk t = 0 then (countW t : Int) else 0⟩, ⟨tErr, chk t⟩])
def cOb (t : Tr) (L : LL) : List Ob := [.var 24 tTr t, .st 91 [.os 2, .os 3], .mp 5 I (mpE L 0), .row 74 tK L]
def anCount (t : Tr) : Ann := [joinAll, freezeAt 18 [10],
  loopAt 10 (Nat × LL) [] (fun st g => { St.at (St.only st [1, 5]) [(7, .ps 1), (8, .d I (g.1 : Int))] with ob := cOb t g.2 }) (fun _ g => (chk t = 0 ∧ g.1 ≤ g.2.length) ∧ foundP t g.2 ∧ closedTo t g.2 g.1) (fun g => countW t + 1 - g.1),
  loopAt 13 (Nat × LL) [] (fun st g => { St.at (St.only st [1, 5, 8, 37]) [(7, .ps 1), (38, .d I (g.1 : Int))] with ob := cOb t g.2 }) (fun st g => (g.1 ≤ t.1.toNat ∧ (st.i 8).toNat < g.2.length) ∧ foundP t g.2 ∧ closedTo t g.2 (st.i 8).toNat ∧ closedAt t g.2 (st.i 8).toNat g.1) (fun g => t.1.toNat - g.1)]
end Go.Proofs.YtbpoeigaoakdiaaDoor.H

/- Clocks that count: what the functions answer. -/
namespace Go.Proofs.YtbpoeigaoakdiaaDoor
open Go.Vc
def Ev5 : Env := { tys := [(3, I), (4, .bool), (5, .int .u8), (9, .str), (22, .sl tEv), (24, tTr), (30, .sl I), (28, tErr), (70, tEv), (61, .sl (.sl I)), (74, .ar 5 I), (100, .ar 5 (.ar 5 I)), (89, .sl (.ar 5 I))], errT := 71, eqs := [], els := [(22, 70), (30, 3), (61, 30), (89, 74)] }
theorem Ev5_ok : EnvOk Tryd.prog Ev5 := EnvOk.of_list (by kernel_rfl) (by kernel_rfl) (by kernel_rfl)
def cClone : Ctr := cdet [.sl I] (fun (l : List Int) => l.length ≤ 1000000000 ∧ True) (fun (l : List Int) => [⟨.sl I, l⟩])
/-- the plain clocks -/
def plst (l : List Ev) : Nat → List Int × List Int
  | 0 => ([], List.replicate 5 0)
  | i + 1 =>
    ((plst l i).1 ++ [(if 0 ≤ (l.getD i (0, 0, ())).2.1 then max ((plst l i).2.getD (l.getD i (0, 0, ())).1.toNat 0) ((plst l i).1.getD (l.getD i (0, 0, ())).2.1.toNat 0) else (plst l i).2.getD (l.getD i (0, 0, ())).1.toNat 0) + 1],
     (plst l i).2.set (l.getD i (0, 0, ())).1.toNat ((if 0 ≤ (l.getD i (0, 0, ())).2.1 then max ((plst l i).2.getD (l.getD i (0, 0, ())).1.toNat 0) ((plst l i).1.getD (l.getD i (0, 0, ())).2.1.toNat 0) else (plst l i).2.getD (l.getD i (0, 0, ())).1.toNat 0) + 1))
def plain (t : Tr) : List Int := if chk t = 0 then (plst t.2.1 t.2.1.length).1 else []
def cPlain : Ctr := cdet [tTr] (fun _ => True) (fun t => [⟨.sl I, plain t⟩, ⟨tErr, chk t⟩])
def anPlain (t : Tr) : Ann :=
  [loopAt 7 Nat [(6, 3, I)] (fun st i => { St.at st [(18, .d I (i : Int)), (8, .any), (9, .any)] with ob := (st.ob.set 1 (.var 74 (.ar 5 I) (plst t.2.1 i).2)).set 2 (.row 3 I (plst t.2.1 i).1) }) (fun _ i => i ≤ t.2.1.length ∧ True) (fun i => t.2.1.length - i)]
/-- the vectors: one that is joined with another one, from place p on; one event more at a process -/
def vjoin (v w : List Int) (p : Nat) : List Int := (List.range 5).map fun q => if q < p then max (v.getD q 0) (w.getD q 0) else v.getD q 0
def vmore (v : List Int) (p : Nat) : List Int := v.set p (v.getD p 0 + 1)
def vst (l : List Ev) : Nat → List (List Int) × List (List Int)
  | 0 => ([], List.replicate 5 (List.replicate 5 0))
  | i + 1 =>
    ((vst l i).1 ++ [vmore (if 0 ≤ (l.getD i (0, 0, ())).2.1 then vjoin ((vst l i).2.getD (l.getD i (0, 0, ())).1.toNat []) ((vst l i).1.getD (l.getD i (0, 0, ())).2.1.toNat []) 5 else (vst l i).2.getD (l.getD i (0, 0, ())).1.toNat []) (l.getD i (0, 0, ())).1.toNat],
     (vst l i).2.set (l.getD i (0, 0, ())).1.toNat (vmore (if 0 ≤ (l.getD i (0, 0, ())).2.1 then vjoin ((vst l i).2.getD (l.getD i (0, 0, ())).1.toNat []) ((vst l i).1.getD (l.getD i (0, 0, ())).2.1.toNat []) 5 else (vst l i).2.getD (l.getD i (0, 0, ())).1.toNat []) (l.getD i (0, 0, ())).1.toNat))
def vecs (t : Tr) : List (List Int) := if chk t = 0 then (vst t.2.1 t.2.1.length).1.map (fun v => v.take t.1.toNat) else []
def cVecs : Ctr := cdet [tTr] (fun _ => True) (fun t => [⟨.sl (.sl I), vecs t⟩, ⟨tErr, chk t⟩])
def anVecs (t : Tr) : Ann :=
  [freezeAt 20 [10],
   loopAt 8 Nat [(6, 74, Ty.ar 5 I), (7, 30, Ty.sl I)] (fun st i => { St.at (St.only st [1, 5, 6, 7, 19, 20]) [(21, .d I (i : Int))] with ob := ((st.ob.set 1 (.var 100 (.ar 5 (.ar 5 I)) (vst t.2.1 i).2)).set 2 (.row 74 (.ar 5 I) (vst t.2.1 i).1)).set 3 (.row 30 (.sl I) ((vst t.2.1 i).1.map fun v => v.take t.1.toNat)) }) (fun _ i => i ≤ t.2.1.length ∧ True) (fun i => t.2.1.length - i),
   loopAt 13 Nat [] (fun st p => { St.at (St.only st [1, 5, 6, 7, 9, 10, 19, 20, 21, 36]) [(37, .d I (p : Int))] with ob := st.ob.set 5 (.var 74 (.ar 5 I) (vjoin ((vst t.2.1 (st.i 21).toNat).2.getD (t.2.1.getD (st.i 21).toNat (0, 0, ())).1.toNat []) ((vst t.2.1 (st.i 21).toNat).1.getD (t.2.1.getD (st.i 21).toNat (0, 0, ())).2.1.toNat []) p)) }) (fun _ p => p ≤ 5 ∧ True) (fun p => 5 - p)]
def cRows : Ctr := cdet [.sl (.sl I), .sl (.sl I)] (fun _ _ => True) (fun (a b : List (List Int)) => [⟨.bool, a == b⟩])
def anRows (a b : List (List Int)) : Ann := an1 Nat 4 (fun st i => St.at (St.only st [0, 1]) [(5, .d I (i : Int))]) (fun i => i ≤ a.length ∧ a.take i = b.take i) (fun i => a.length - i)
def cSFact : Ctr := cdet [] True [⟨.bool, true⟩]
end Go.Proofs.YtbpoeigaoakdiaaDoor

/- What the functions of this seat have to satisfy, by program: each verification condition in plain words. -/
namespace Go.Proofs.YtbpoeigaoakdiaaDoor
open Go.Vc
set_option linter.unusedVariables false
theorem vcClone (l : List Int) (k : List Dat → Prop) : vcF ⟨Ev5, [], [], [], []⟩ [] (Tryd.f60.body.getD .skip) Tryd.f60.ntmps [(.tmp 2, .sl I)] [⟨.sl I, l⟩] k = (
  ∀ (b : Bool), (b = true → l = []) → (b = true → k [Dat.mk (I).sl []]) ∧ (b = false → ([] : List Int).length + l.length ≤ (1000000000 : Nat) ∧ k [Dat.mk (I).sl l])) := by kernel_rfl
theorem vcPlain (t : Tr) (k : List Dat → Prop) : vcF ⟨Ev5, [(10, cCheck)], [], [], []⟩ (anPlain t) (Tryd.f37.body.getD .skip) Tryd.f37.ntmps [(.tmp 2, .sl I), (.tmp 3, tErr)] [⟨tTr, t⟩] k = (
  True ∧ ((!decide (chk t = (0 : Int))) = true → k [Dat.mk (I).sl [], Dat.mk (Ty.err (71 : Nat)) (chk t)]) ∧ ((!decide (chk t = (0 : Int))) = false → (∃ (x : Nat), (x ≤ t.snd.fst.length ∧ True) ∧ (t = t ∧ ([] : List Nat) = [] ∧ True ∧ (0 : Int) = (0 : Int) ∧ chk t = chk t ∧ ([] : List Nat) = [] ∧ True ∧ t = t ∧ chk t = chk t ∧ chk t = chk t ∧ (!decide (chk t = (0 : Int))) = !decide (chk t = (0 : Int)) ∧ [] ++ [(1 : Nat)] = [] ++ [(1 : Nat)] ∧ t.snd.fst = t.snd.fst ∧ (↑(List.length t.snd.fst) : Int) = (↑(List.length t.snd.fst) : Int) ∧ (0 : Int) = (↑x : Int) ∧ True) ∧ (((24 : Nat) = (24 : Nat) ∧ t = t) ∧ ((74 : Nat) = (74 : Nat) ∧ List.replicate (5 : Nat) (0 : Int) = (plst t.snd.fst x).snd) ∧ ((3 : Nat) = (3 : Nat) ∧ [] = (plst t.snd.fst x).fst) ∧ True) ∧ True) ∧ ∀ (x : Nat), x ≤ t.snd.fst.length ∧ True → (decide ((↑x : Int) < (↑(List.length t.snd.fst) : Int)) = true → (0 : Int) ≤ (↑x : Int) ∧ (↑x : Int) < (↑(List.length t.snd.fst) : Int) ∧ (0 : Int) ≤ (List.getD t.snd.fst (↑x : Int).toNat ((0 : Int), (0 : Int), ())).fst ∧ (List.getD t.snd.fst (↑x : Int).toNat ((0 : Int), (0 : Int), ())).fst < (↑(5 : Nat) : Int) ∧ (decide ((0 : Int) ≤ (List.getD t.snd.fst (↑x : Int).toNat ((0 : Int), (0 : Int), ())).snd.fst) = true → (0 : Int) ≤ (List.getD t.snd.fst (↑x : Int).toNat ((0 : Int), (0 : Int), ())).snd.fst ∧ (List.getD t.snd.fst (↑x : Int).toNat ((0 : Int), (0 : Int), ())).snd.fst < (↑(plst t.snd.fst x).fst.length : Int) ∧ inK IntKind.i64 (max ((plst t.snd.fst x).snd.getD (Int.toNat (List.getD t.snd.fst (↑x : Int).toNat ((0 : Int), (0 : Int), ())).fst) (0 : Int)) ((plst t.snd.fst x).fst.getD (Int.toNat (List.getD t.snd.fst (↑x : Int).toNat ((0 : Int), (0 : Int), ())).snd.fst) (0 : Int)) + (1 : Int)) ∧ (plst t.snd.fst x).fst.length + ((List.replicate (1 : Nat) (0 : Int)).set (0 : Nat) (max ((plst t.snd.fst x).snd.getD (Int.toNat (List.getD t.snd.fst (↑x : Int).toNat ((0 : Int), (0 : Int), ())).fst) (0 : Int)) ((plst t.snd.fst x).fst.getD (Int.toNat (List.getD t.snd.fst (↑x : Int).toNat ((0 : Int), (0 : Int), ())).snd.fst) (0 : Int)) + (1 : Int))).length ≤ (1000000000 : Nat) ∧ inK IntKind.i64 (max ((plst t.snd.fst x).snd.getD (Int.toNat (List.getD t.snd.fst (↑x : Int).toNat ((0 : Int), (0 : Int), ())).fst) (0 : Int)) ((plst t.snd.fst x).fst.getD (Int.toNat (List.getD t.snd.fst (↑x : Int).toNat ((0 : Int), (0 : Int), ())).snd.fst) (0 : Int)) + (1 : Int)) ∧ (0 : Int) ≤ (List.getD t.snd.fst (↑x : Int).toNat ((0 : Int), (0 : Int), ())).fst ∧ (List.getD t.snd.fst (↑x : Int).toNat ((0 : Int), (0 : Int), ())).fst < (↑(5 : Nat) : Int) ∧ inK IntKind.i64 ((↑x : Int) + (1 : Int)) ∧ ∃ (x_1 : Nat), (x_1 ≤ t.snd.fst.length ∧ True) ∧ t.snd.fst.length - x_1 < t.snd.fst.length - x ∧ (t = t ∧ ([] : List Nat) = [] ∧ True ∧ (0 : Int) = (0 : Int) ∧ chk t = chk t ∧ ([] : List Nat) = [] ∧ True ∧ t = t ∧ chk t = chk t ∧ chk t = chk t ∧ (!decide (chk t = (0 : Int))) = !decide (chk t = (0 : Int)) ∧ [] ++ [(1 : Nat)] = [] ++ [(1 : Nat)] ∧ t.snd.fst = t.snd.fst ∧ (↑(List.length t.snd.fst) : Int) = (↑(List.length t.snd.fst) : Int) ∧ (↑x : Int) + (1 : Int) = (↑x_1 : Int) ∧ True) ∧ (((24 : Nat) = (24 : Nat) ∧ t = t) ∧ ((74 : Nat) = (74 : Nat) ∧ (plst t.snd.fst x).snd.set (Int.toNat (List.getD t.snd.fst (↑x : Int).toNat ((0 : Int), (0 : Int), ())).fst) (max ((plst t.snd.fst x).snd.getD (Int.toNat (List.getD t.snd.fst (↑x : Int).toNat ((0 : Int), (0 : Int), ())).fst) (0 : Int)) ((plst t.snd.fst x).fst.getD (Int.toNat (List.getD t.snd.fst (↑x : Int).toNat ((0 : Int), (0 : Int), ())).snd.fst) (0 : Int)) + (1 : Int)) = (plst t.snd.fst x_1).snd) ∧ ((3 : Nat) = (3 : Nat) ∧ (plst t.snd.fst x).fst.append ((List.replicate (1 : Nat) (0 : Int)).set (0 : Nat) (max ((plst t.snd.fst x).snd.getD (Int.toNat (List.getD t.snd.fst (↑x : Int).toNat ((0 : Int), (0 : Int), ())).fst) (0 : Int)) ((plst t.snd.fst x).fst.getD (Int.toNat (List.getD t.snd.fst (↑x : Int).toNat ((0 : Int), (0 : Int), ())).snd.fst) (0 : Int)) + (1 : Int))) = (plst t.snd.fst x_1).fst) ∧ True) ∧ True) ∧ (decide ((0 : Int) ≤ (List.getD t.snd.fst (↑x : Int).toNat ((0 : Int), (0 : Int), ())).snd.fst) = false → inK IntKind.i64 ((plst t.snd.fst x).snd.getD (Int.toNat (List.getD t.snd.fst (↑x : Int).toNat ((0 : Int), (0 : Int), ())).fst) (0 : Int) + (1 : Int)) ∧ (plst t.snd.fst x).fst.length + ((List.replicate (1 : Nat) (0 : Int)).set (0 : Nat) ((plst t.snd.fst x).snd.getD (Int.toNat (List.getD t.snd.fst (↑x : Int).toNat ((0 : Int), (0 : Int), ())).fst) (0 : Int) + (1 : Int))).length ≤ (1000000000 : Nat) ∧ inK IntKind.i64 ((plst t.snd.fst x).snd.getD (Int.toNat (List.getD t.snd.fst (↑x : Int).toNat ((0 : Int), (0 : Int), ())).fst) (0 : Int) + (1 : Int)) ∧ (0 : Int) ≤ (List.getD t.snd.fst (↑x : Int).toNat ((0 : Int), (0 : Int), ())).fst ∧ (List.getD t.snd.fst (↑x : Int).toNat ((0 : Int), (0 : Int), ())).fst < (↑(5 : Nat) : Int) ∧ inK IntKind.i64 ((↑x : Int) + (1 : Int)) ∧ ∃ (x_1 : Nat), (x_1 ≤ t.snd.fst.length ∧ True) ∧ t.snd.fst.length - x_1 < t.snd.fst.length - x ∧ (t = t ∧ ([] : List Nat) = [] ∧ True ∧ (0 : Int) = (0 : Int) ∧ chk t = chk t ∧ ([] : List Nat) = [] ∧ True ∧ t = t ∧ chk t = chk t ∧ chk t = chk t ∧ (!decide (chk t = (0 : Int))) = !decide (chk t = (0 : Int)) ∧ [] ++ [(1 : Nat)] = [] ++ [(1 : Nat)] ∧ t.snd.fst = t.snd.fst ∧ (↑(List.length t.snd.fst) : Int) = (↑(List.length t.snd.fst) : Int) ∧ (↑x : Int) + (1 : Int) = (↑x_1 : Int) ∧ True) ∧ (((24 : Nat) = (24 : Nat) ∧ t = t) ∧ ((74 : Nat) = (74 : Nat) ∧ (plst t.snd.fst x).snd.set (Int.toNat (List.getD t.snd.fst (↑x : Int).toNat ((0 : Int), (0 : Int), ())).fst) ((plst t.snd.fst x).snd.getD (Int.toNat (List.getD t.snd.fst (↑x : Int).toNat ((0 : Int), (0 : Int), ())).fst) (0 : Int) + (1 : Int)) = (plst t.snd.fst x_1).snd) ∧ ((3 : Nat) = (3 : Nat) ∧ (plst t.snd.fst x).fst.append ((List.replicate (1 : Nat) (0 : Int)).set (0 : Nat) ((plst t.snd.fst x).snd.getD (Int.toNat (List.getD t.snd.fst (↑x : Int).toNat ((0 : Int), (0 : Int), ())).fst) (0 : Int) + (1 : Int))) = (plst t.snd.fst x_1).fst) ∧ True) ∧ True)) ∧ (decide ((↑x : Int) < (↑(List.length t.snd.fst) : Int)) = false → k [Dat.mk (I).sl (plst t.snd.fst x).fst, Dat.mk (Ty.err (71 : Nat)) (0 : Int)]))) := by kernel_rfl
theorem vcVecs (t : Tr) (k : List Dat → Prop) : vcF ⟨Ev5, [(10, cCheck), (60, cClone)], [], [], []⟩ (anVecs t) (Tryd.f38.body.getD .skip) Tryd.f38.ntmps [(.tmp 2, .sl (.sl I)), (.tmp 3, tErr)] [⟨tTr, t⟩] k = (
  True ∧ ((!decide (chk t = (0 : Int))) = true → k [Dat.mk (I).sl.sl [], Dat.mk (Ty.err (71 : Nat)) (chk t)]) ∧ ((!decide (chk t = (0 : Int))) = false → (∃ (x : Nat), (x ≤ t.snd.fst.length ∧ True) ∧ (([] : List Nat) = [] ∧ ([] : List Nat) = [] ∧ True ∧ True ∧ t.snd.fst = t.snd.fst ∧ (↑(List.length t.snd.fst) : Int) = (↑(List.length t.snd.fst) : Int) ∧ (0 : Int) = (↑x : Int) ∧ True) ∧ (((24 : Nat) = (24 : Nat) ∧ t = t) ∧ ((100 : Nat) = (100 : Nat) ∧ List.replicate (5 : Nat) (List.replicate (5 : Nat) (0 : Int)) = (vst t.snd.fst x).snd) ∧ ((74 : Nat) = (74 : Nat) ∧ [] = (vst t.snd.fst x).fst) ∧ ((30 : Nat) = (30 : Nat) ∧ [] = List.map (fun (v : List Int) => List.take t.fst.toNat v) (vst t.snd.fst x).fst) ∧ True) ∧ True) ∧ ∀ (x : Nat), x ≤ t.snd.fst.length ∧ True → (decide ((↑x : Int) < (↑(List.length t.snd.fst) : Int)) = true → (0 : Int) ≤ (↑x : Int) ∧ (↑x : Int) < (↑(List.length t.snd.fst) : Int) ∧ (0 : Int) ≤ (List.getD t.snd.fst (↑x : Int).toNat ((0 : Int), (0 : Int), ())).fst ∧ (List.getD t.snd.fst (↑x : Int).toNat ((0 : Int), (0 : Int), ())).fst < (↑(5 : Nat) : Int) ∧ (decide ((0 : Int) ≤ (List.getD t.snd.fst (↑x : Int).toNat ((0 : Int), (0 : Int), ())).snd.fst) = true → (0 : Int) ≤ (List.getD t.snd.fst (↑x : Int).toNat ((0 : Int), (0 : Int), ())).snd.fst ∧ (List.getD t.snd.fst (↑x : Int).toNat ((0 : Int), (0 : Int), ())).snd.fst < (↑(vst t.snd.fst x).fst.length : Int) ∧ (∃ (x_1 : Nat), (x_1 ≤ (5 : Nat) ∧ True) ∧ (([] : List Nat) = [] ∧ ([] : List Nat) = [] ∧ True ∧ True ∧ ([] : List Nat) = [] ∧ ([] : List Nat) = [] ∧ t.snd.fst = t.snd.fst ∧ (↑(List.length t.snd.fst) : Int) = (↑(List.length t.snd.fst) : Int) ∧ (↑x : Int) = (↑x : Int) ∧ (vst t.snd.fst x).fst.getD (Int.toNat (List.getD t.snd.fst (↑x : Int).toNat ((0 : Int), (0 : Int), ())).snd.fst) (List.replicate (5 : Nat) (0 : Int)) = (vst t.snd.fst x).fst.getD (Int.toNat (List.getD t.snd.fst (↑x : Int).toNat ((0 : Int), (0 : Int), ())).snd.fst) (List.replicate (5 : Nat) (0 : Int)) ∧ (0 : Int) = (↑x_1 : Int) ∧ True) ∧ (((24 : Nat) = (24 : Nat) ∧ t = t) ∧ ((100 : Nat) = (100 : Nat) ∧ (vst t.snd.fst x).snd = (vst t.snd.fst x).snd) ∧ ((74 : Nat) = (74 : Nat) ∧ (vst t.snd.fst x).fst = (vst t.snd.fst x).fst) ∧ ((30 : Nat) = (30 : Nat) ∧ List.map (fun (v : List Int) => List.take t.fst.toNat v) (vst t.snd.fst x).fst = List.map (fun (v : List Int) => List.take t.fst.toNat v) (vst t.snd.fst x).fst) ∧ ((70 : Nat) = (70 : Nat) ∧ List.getD t.snd.fst (↑x : Int).toNat ((0 : Int), (0 : Int), ()) = List.getD t.snd.fst (↑x : Int).toNat ((0 : Int), (0 : Int), ())) ∧ ((74 : Nat) = (74 : Nat) ∧ (vst t.snd.fst x).snd.getD (Int.toNat (List.getD t.snd.fst (↑x : Int).toNat ((0 : Int), (0 : Int), ())).fst) (List.replicate (5 : Nat) (0 : Int)) = vjoin ((vst t.snd.fst (↑x : Int).toNat).snd.getD (t.snd.fst.getD (↑x : Int).toNat ((0 : Int), (0 : Int), ())).fst.toNat []) ((vst t.snd.fst (↑x : Int).toNat).fst.getD (t.snd.fst.getD (↑x : Int).toNat ((0 : Int), (0 : Int), ())).snd.fst.toNat []) x_1) ∧ True) ∧ True) ∧ ∀ (x_1 : Nat), x_1 ≤ (5 : Nat) ∧ True → (decide ((↑x_1 : Int) < (5 : Int)) = true → (0 : Int) ≤ (↑x_1 : Int) ∧ (↑x_1 : Int) < (↑(5 : Nat) : Int) ∧ (0 : Int) ≤ (↑x_1 : Int) ∧ (↑x_1 : Int) < (↑(5 : Nat) : Int) ∧ (0 : Int) ≤ (↑x_1 : Int) ∧ (↑x_1 : Int) < (↑(5 : Nat) : Int) ∧ inK IntKind.i64 ((↑x_1 : Int) + (1 : Int)) ∧ ∃ (x_2 : Nat), (x_2 ≤ (5 : Nat) ∧ True) ∧ (5 : Nat) - x_2 < (5 : Nat) - x_1 ∧ (([] : List Nat) = [] ∧ ([] : List Nat) = [] ∧ True ∧ True ∧ ([] : List Nat) = [] ∧ ([] : List Nat) = [] ∧ t.snd.fst = t.snd.fst ∧ (↑(List.length t.snd.fst) : Int) = (↑(List.length t.snd.fst) : Int) ∧ (↑x : Int) = (↑x : Int) ∧ (vst t.snd.fst x).fst.getD (Int.toNat (List.getD t.snd.fst (↑x : Int).toNat ((0 : Int), (0 : Int), ())).snd.fst) (List.replicate (5 : Nat) (0 : Int)) = (vst t.snd.fst x).fst.getD (Int.toNat (List.getD t.snd.fst (↑x : Int).toNat ((0 : Int), (0 : Int), ())).snd.fst) (List.replicate (5 : Nat) (0 : Int)) ∧ (↑x_1 : Int) + (1 : Int) = (↑x_2 : Int) ∧ True) ∧ (((24 : Nat) = (24 : Nat) ∧ t = t) ∧ ((100 : Nat) = (100 : Nat) ∧ (vst t.snd.fst x).snd = (vst t.snd.fst x).snd) ∧ ((74 : Nat) = (74 : Nat) ∧ (vst t.snd.fst x).fst = (vst t.snd.fst x).fst) ∧ ((30 : Nat) = (30 : Nat) ∧ List.map (fun (v : List Int) => List.take t.fst.toNat v) (vst t.snd.fst x).fst = List.map (fun (v : List Int) => List.take t.fst.toNat v) (vst t.snd.fst x).fst) ∧ ((70 : Nat) = (70 : Nat) ∧ List.getD t.snd.fst (↑x : Int).toNat ((0 : Int), (0 : Int), ()) = List.getD t.snd.fst (↑x : Int).toNat ((0 : Int), (0 : Int), ())) ∧ ((74 : Nat) = (74 : Nat) ∧ (vjoin ((vst t.snd.fst (↑x : Int).toNat).snd.getD (t.snd.fst.getD (↑x : Int).toNat ((0 : Int), (0 : Int), ())).fst.toNat []) ((vst t.snd.fst (↑x : Int).toNat).fst.getD (t.snd.fst.getD (↑x : Int).toNat ((0 : Int), (0 : Int), ())).snd.fst.toNat []) x_1).set (↑x_1 : Int).toNat (max ((vjoin ((vst t.snd.fst (↑x : Int).toNat).snd.getD (t.snd.fst.getD (↑x : Int).toNat ((0 : Int), (0 : Int), ())).fst.toNat []) ((vst t.snd.fst (↑x : Int).toNat).fst.getD (t.snd.fst.getD (↑x : Int).toNat ((0 : Int), (0 : Int), ())).snd.fst.toNat []) x_1).getD (↑x_1 : Int).toNat (0 : Int)) (((vst t.snd.fst x).fst.getD (Int.toNat (List.getD t.snd.fst (↑x : Int).toNat ((0 : Int), (0 : Int), ())).snd.fst) (List.replicate (5 : Nat) (0 : Int))).getD (↑x_1 : Int).toNat (0 : Int))) = vjoin ((vst t.snd.fst (↑x : Int).toNat).snd.getD (t.snd.fst.getD (↑x : Int).toNat ((0 : Int), (0 : Int), ())).fst.toNat []) ((vst t.snd.fst (↑x : Int).toNat).fst.getD (t.snd.fst.getD (↑x : Int).toNat ((0 : Int), (0 : Int), ())).snd.fst.toNat []) x_2) ∧ True) ∧ True) ∧ (decide ((↑x_1 : Int) < (5 : Int)) = false → (0 : Int) ≤ (List.getD t.snd.fst (↑x : Int).toNat ((0 : Int), (0 : Int), ())).fst ∧ (List.getD t.snd.fst (↑x : Int).toNat ((0 : Int), (0 : Int), ())).fst < (↑(5 : Nat) : Int) ∧ inK IntKind.i64 ((vjoin ((vst t.snd.fst (↑x : Int).toNat).snd.getD (t.snd.fst.getD (↑x : Int).toNat ((0 : Int), (0 : Int), ())).fst.toNat []) ((vst t.snd.fst (↑x : Int).toNat).fst.getD (t.snd.fst.getD (↑x : Int).toNat ((0 : Int), (0 : Int), ())).snd.fst.toNat []) x_1).getD (Int.toNat (List.getD t.snd.fst (↑x : Int).toNat ((0 : Int), (0 : Int), ())).fst) (0 : Int) + (1 : Int)) ∧ (0 : Int) ≤ (List.getD t.snd.fst (↑x : Int).toNat ((0 : Int), (0 : Int), ())).fst ∧ (List.getD t.snd.fst (↑x : Int).toNat ((0 : Int), (0 : Int), ())).fst < (↑(5 : Nat) : Int) ∧ (0 : Int) ≤ (List.getD t.snd.fst (↑x : Int).toNat ((0 : Int), (0 : Int), ())).fst ∧ (List.getD t.snd.fst (↑x : Int).toNat ((0 : Int), (0 : Int), ())).fst < (↑(5 : Nat) : Int) ∧ (vst t.snd.fst x).fst.length + ((List.replicate (1 : Nat) (List.replicate (5 : Nat) (0 : Int))).set (0 : Nat) ((vjoin ((vst t.snd.fst (↑x : Int).toNat).snd.getD (t.snd.fst.getD (↑x : Int).toNat ((0 : Int), (0 : Int), ())).fst.toNat []) ((vst t.snd.fst (↑x : Int).toNat).fst.getD (t.snd.fst.getD (↑x : Int).toNat ((0 : Int), (0 : Int), ())).snd.fst.toNat []) x_1).set (Int.toNat (List.getD t.snd.fst (↑x : Int).toNat ((0 : Int), (0 : Int), ())).fst) ((vjoin ((vst t.snd.fst (↑x : Int).toNat).snd.getD (t.snd.fst.getD (↑x : Int).toNat ((0 : Int), (0 : Int), ())).fst.toNat []) ((vst t.snd.fst (↑x : Int).toNat).fst.getD (t.snd.fst.getD (↑x : Int).toNat ((0 : Int), (0 : Int), ())).snd.fst.toNat []) x_1).getD (Int.toNat (List.getD t.snd.fst (↑x : Int).toNat ((0 : Int), (0 : Int), ())).fst) (0 : Int) + (1 : Int)))).length ≤ (1000000000 : Nat) ∧ (0 : Int) ≤ (0 : Int) ∧ (0 : Int) ≤ t.fst ∧ t.fst ≤ (↑(5 : Nat) : Int) ∧ ((List.drop (Int.toNat (0 : Int)) (List.take (Int.toNat t.fst) ((vjoin ((vst t.snd.fst (↑x : Int).toNat).snd.getD (t.snd.fst.getD (↑x : Int).toNat ((0 : Int), (0 : Int), ())).fst.toNat []) ((vst t.snd.fst (↑x : Int).toNat).fst.getD (t.snd.fst.getD (↑x : Int).toNat ((0 : Int), (0 : Int), ())).snd.fst.toNat []) x_1).set (Int.toNat (List.getD t.snd.fst (↑x : Int).toNat ((0 : Int), (0 : Int), ())).fst) ((vjoin ((vst t.snd.fst (↑x : Int).toNat).snd.getD (t.snd.fst.getD (↑x : Int).toNat ((0 : Int), (0 : Int), ())).fst.toNat []) ((vst t.snd.fst (↑x : Int).toNat).fst.getD (t.snd.fst.getD (↑x : Int).toNat ((0 : Int), (0 : Int), ())).snd.fst.toNat []) x_1).getD (Int.toNat (List.getD t.snd.fst (↑x : Int).toNat ((0 : Int), (0 : Int), ())).fst) (0 : Int) + (1 : Int))))).length ≤ (1000000000 : Nat) ∧ True) ∧ (List.map (fun (v : List Int) => List.take t.fst.toNat v) (vst t.snd.fst x).fst).length + ((List.replicate (1 : Nat) []).set (0 : Nat) (List.drop (Int.toNat (0 : Int)) (List.take (Int.toNat t.fst) ((vjoin ((vst t.snd.fst (↑x : Int).toNat).snd.getD (t.snd.fst.getD (↑x : Int).toNat ((0 : Int), (0 : Int), ())).fst.toNat []) ((vst t.snd.fst (↑x : Int).toNat).fst.getD (t.snd.fst.getD (↑x : Int).toNat ((0 : Int), (0 : Int), ())).snd.fst.toNat []) x_1).set (Int.toNat (List.getD t.snd.fst (↑x : Int).toNat ((0 : Int), (0 : Int), ())).fst) ((vjoin ((vst t.snd.fst (↑x : Int).toNat).snd.getD (t.snd.fst.getD (↑x : Int).toNat ((0 : Int), (0 : Int), ())).fst.toNat []) ((vst t.snd.fst (↑x : Int).toNat).fst.getD (t.snd.fst.getD (↑x : Int).toNat ((0 : Int), (0 : Int), ())).snd.fst.toNat []) x_1).getD (Int.toNat (List.getD t.snd.fst (↑x : Int).toNat ((0 : Int), (0 : Int), ())).fst) (0 : Int) + (1 : Int)))))).length ≤ (1000000000 : Nat) ∧ inK IntKind.i64 ((↑x : Int) + (1 : Int)) ∧ ∃ (x_2 : Nat), (x_2 ≤ t.snd.fst.length ∧ True) ∧ t.snd.fst.length - x_2 < t.snd.fst.length - x ∧ (([] : List Nat) = [] ∧ ([] : List Nat) = [] ∧ True ∧ True ∧ t.snd.fst = t.snd.fst ∧ (↑(List.length t.snd.fst) : Int) = (↑(List.length t.snd.fst) : Int) ∧ (↑x : Int) + (1 : Int) = (↑x_2 : Int) ∧ True) ∧ (((24 : Nat) = (24 : Nat) ∧ t = t) ∧ ((100 : Nat) = (100 : Nat) ∧ (vst t.snd.fst x).snd.set (Int.toNat (List.getD t.snd.fst (↑x : Int).toNat ((0 : Int), (0 : Int), ())).fst) ((vjoin ((vst t.snd.fst (↑x : Int).toNat).snd.getD (t.snd.fst.getD (↑x : Int).toNat ((0 : Int), (0 : Int), ())).fst.toNat []) ((vst t.snd.fst (↑x : Int).toNat).fst.getD (t.snd.fst.getD (↑x : Int).toNat ((0 : Int), (0 : Int), ())).snd.fst.toNat []) x_1).set (Int.toNat (List.getD t.snd.fst (↑x : Int).toNat ((0 : Int), (0 : Int), ())).fst) ((vjoin ((vst t.snd.fst (↑x : Int).toNat).snd.getD (t.snd.fst.getD (↑x : Int).toNat ((0 : Int), (0 : Int), ())).fst.toNat []) ((vst t.snd.fst (↑x : Int).toNat).fst.getD (t.snd.fst.getD (↑x : Int).toNat ((0 : Int), (0 : Int), ())).snd.fst.toNat []) x_1).getD (Int.toNat (List.getD t.snd.fst (↑x : Int).toNat ((0 : Int), (0 : Int), ())).fst) (0 : Int) + (1 : Int))) = (vst t.snd.fst x_2).snd) ∧ ((74 : Nat) = (74 : Nat) ∧ (vst t.snd.fst x).fst.append ((List.replicate (1 : Nat) (List.replicate (5 : Nat) (0 : Int))).set (0 : Nat) ((vjoin ((vst t.snd.fst (↑x : Int).toNat).snd.getD (t.snd.fst.getD (↑x : Int).toNat ((0 : Int), (0 : Int), ())).fst.toNat []) ((vst t.snd.fst (↑x : Int).toNat).fst.getD (t.snd.fst.getD (↑x : Int).toNat ((0 : Int), (0 : Int), ())).snd.fst.toNat []) x_1).set (Int.toNat (List.getD t.snd.fst (↑x : Int).toNat ((0 : Int), (0 : Int), ())).fst) ((vjoin ((vst t.snd.fst (↑x : Int).toNat).snd.getD (t.snd.fst.getD (↑x : Int).toNat ((0 : Int), (0 : Int), ())).fst.toNat []) ((vst t.snd.fst (↑x : Int).toNat).fst.getD (t.snd.fst.getD (↑x : Int).toNat ((0 : Int), (0 : Int), ())).snd.fst.toNat []) x_1).getD (Int.toNat (List.getD t.snd.fst (↑x : Int).toNat ((0 : Int), (0 : Int), ())).fst) (0 : Int) + (1 : Int)))) = (vst t.snd.fst x_2).fst) ∧ ((30 : Nat) = (30 : Nat) ∧ (List.map (fun (v : List Int) => List.take t.fst.toNat v) (vst t.snd.fst x).fst).append ((List.replicate (1 : Nat) []).set (0 : Nat) (List.drop (Int.toNat (0 : Int)) (List.take (Int.toNat t.fst) ((vjoin ((vst t.snd.fst (↑x : Int).toNat).snd.getD (t.snd.fst.getD (↑x : Int).toNat ((0 : Int), (0 : Int), ())).fst.toNat []) ((vst t.snd.fst (↑x : Int).toNat).fst.getD (t.snd.fst.getD (↑x : Int).toNat ((0 : Int), (0 : Int), ())).snd.fst.toNat []) x_1).set (Int.toNat (List.getD t.snd.fst (↑x : Int).toNat ((0 : Int), (0 : Int), ())).fst) ((vjoin ((vst t.snd.fst (↑x : Int).toNat).snd.getD (t.snd.fst.getD (↑x : Int).toNat ((0 : Int), (0 : Int), ())).fst.toNat []) ((vst t.snd.fst (↑x : Int).toNat).fst.getD (t.snd.fst.getD (↑x : Int).toNat ((0 : Int), (0 : Int), ())).snd.fst.toNat []) x_1).getD (Int.toNat (List.getD t.snd.fst (↑x : Int).toNat ((0 : Int), (0 : Int), ())).fst) (0 : Int) + (1 : Int)))))) = List.map (fun (v : List Int) => List.take t.fst.toNat v) (vst t.snd.fst x_2).fst) ∧ True) ∧ True)) ∧ (decide ((0 : Int) ≤ (List.getD t.snd.fst (↑x : Int).toNat ((0 : Int), (0 : Int), ())).snd.fst) = false → (0 : Int) ≤ (List.getD t.snd.fst (↑x : Int).toNat ((0 : Int), (0 : Int), ())).fst ∧ (List.getD t.snd.fst (↑x : Int).toNat ((0 : Int), (0 : Int), ())).fst < (↑(5 : Nat) : Int) ∧ inK IntKind.i64 (((vst t.snd.fst x).snd.getD (Int.toNat (List.getD t.snd.fst (↑x : Int).toNat ((0 : Int), (0 : Int), ())).fst) (List.replicate (5 : Nat) (0 : Int))).getD (Int.toNat (List.getD t.snd.fst (↑x : Int).toNat ((0 : Int), (0 : Int), ())).fst) (0 : Int) + (1 : Int)) ∧ (0 : Int) ≤ (List.getD t.snd.fst (↑x : Int).toNat ((0 : Int), (0 : Int), ())).fst ∧ (List.getD t.snd.fst (↑x : Int).toNat ((0 : Int), (0 : Int), ())).fst < (↑(5 : Nat) : Int) ∧ (0 : Int) ≤ (List.getD t.snd.fst (↑x : Int).toNat ((0 : Int), (0 : Int), ())).fst ∧ (List.getD t.snd.fst (↑x : Int).toNat ((0 : Int), (0 : Int), ())).fst < (↑(5 : Nat) : Int) ∧ (vst t.snd.fst x).fst.length + ((List.replicate (1 : Nat) (List.replicate (5 : Nat) (0 : Int))).set (0 : Nat) (((vst t.snd.fst x).snd.getD (Int.toNat (List.getD t.snd.fst (↑x : Int).toNat ((0 : Int), (0 : Int), ())).fst) (List.replicate (5 : Nat) (0 : Int))).set (Int.toNat (List.getD t.snd.fst (↑x : Int).toNat ((0 : Int), (0 : Int), ())).fst) (((vst t.snd.fst x).snd.getD (Int.toNat (List.getD t.snd.fst (↑x : Int).toNat ((0 : Int), (0 : Int), ())).fst) (List.replicate (5 : Nat) (0 : Int))).getD (Int.toNat (List.getD t.snd.fst (↑x : Int).toNat ((0 : Int), (0 : Int), ())).fst) (0 : Int) + (1 : Int)))).length ≤ (1000000000 : Nat) ∧ (0 : Int) ≤ (0 : Int) ∧ (0 : Int) ≤ t.fst ∧ t.fst ≤ (↑(5 : Nat) : Int) ∧ ((List.drop (Int.toNat (0 : Int)) (List.take (Int.toNat t.fst) (((vst t.snd.fst x).snd.getD (Int.toNat (List.getD t.snd.fst (↑x : Int).toNat ((0 : Int), (0 : Int), ())).fst) (List.replicate (5 : Nat) (0 : Int))).set (Int.toNat (List.getD t.snd.fst (↑x : Int).toNat ((0 : Int), (0 : Int), ())).fst) (((vst t.snd.fst x).snd.getD (Int.toNat (List.getD t.snd.fst (↑x : Int).toNat ((0 : Int), (0 : Int), ())).fst) (List.replicate (5 : Nat) (0 : Int))).getD (Int.toNat (List.getD t.snd.fst (↑x : Int).toNat ((0 : Int), (0 : Int), ())).fst) (0 : Int) + (1 : Int))))).length ≤ (1000000000 : Nat) ∧ True) ∧ (List.map (fun (v : List Int) => List.take t.fst.toNat v) (vst t.snd.fst x).fst).length + ((List.replicate (1 : Nat) []).set (0 : Nat) (List.drop (Int.toNat (0 : Int)) (List.take (Int.toNat t.fst) (((vst t.snd.fst x).snd.getD (Int.toNat (List.getD t.snd.fst (↑x : Int).toNat ((0 : Int), (0 : Int), ())).fst) (List.replicate (5 : Nat) (0 : Int))).set (Int.toNat (List.getD t.snd.fst (↑x : Int).toNat ((0 : Int), (0 : Int), ())).fst) (((vst t.snd.fst x).snd.getD (Int.toNat (List.getD t.snd.fst (↑x : Int).toNat ((0 : Int), (0 : Int), ())).fst) (List.replicate (5 : Nat) (0 : Int))).getD (Int.toNat (List.getD t.snd.fst (↑x : Int).toNat ((0 : Int), (0 : Int), ())).fst) (0 : Int) + (1 : Int)))))).length ≤ (1000000000 : Nat) ∧ inK IntKind.i64 ((↑x : Int) + (1 : Int)) ∧ ∃ (x_1 : Nat), (x_1 ≤ t.snd.fst.length ∧ True) ∧ t.snd.fst.length - x_1 < t.snd.fst.length - x ∧ (([] : List Nat) = [] ∧ ([] : List Nat) = [] ∧ True ∧ True ∧ t.snd.fst = t.snd.fst ∧ (↑(List.length t.snd.fst) : Int) = (↑(List.length t.snd.fst) : Int) ∧ (↑x : Int) + (1 : Int) = (↑x_1 : Int) ∧ True) ∧ (((24 : Nat) = (24 : Nat) ∧ t = t) ∧ ((100 : Nat) = (100 : Nat) ∧ (vst t.snd.fst x).snd.set (Int.toNat (List.getD t.snd.fst (↑x : Int).toNat ((0 : Int), (0 : Int), ())).fst) (((vst t.snd.fst x).snd.getD (Int.toNat (List.getD t.snd.fst (↑x : Int).toNat ((0 : Int), (0 : Int), ())).fst) (List.replicate (5 : Nat) (0 : Int))).set (Int.toNat (List.getD t.snd.fst (↑x : Int).toNat ((0 : Int), (0 : Int), ())).fst) (((vst t.snd.fst x).snd.getD (Int.toNat (List.getD t.snd.fst (↑x : Int).toNat ((0 : Int), (0 : Int), ())).fst) (List.replicate (5 : Nat) (0 : Int))).getD (Int.toNat (List.getD t.snd.fst (↑x : Int).toNat ((0 : Int), (0 : Int), ())).fst) (0 : Int) + (1 : Int))) = (vst t.snd.fst x_1).snd) ∧ ((74 : Nat) = (74 : Nat) ∧ (vst t.snd.fst x).fst.append ((List.replicate (1 : Nat) (List.replicate (5 : Nat) (0 : Int))).set (0 : Nat) (((vst t.snd.fst x).snd.getD (Int.toNat (List.getD t.snd.fst (↑x : Int).toNat ((0 : Int), (0 : Int), ())).fst) (List.replicate (5 : Nat) (0 : Int))).set (Int.toNat (List.getD t.snd.fst (↑x : Int).toNat ((0 : Int), (0 : Int), ())).fst) (((vst t.snd.fst x).snd.getD (Int.toNat (List.getD t.snd.fst (↑x : Int).toNat ((0 : Int), (0 : Int), ())).fst) (List.replicate (5 : Nat) (0 : Int))).getD (Int.toNat (List.getD t.snd.fst (↑x : Int).toNat ((0 : Int), (0 : Int), ())).fst) (0 : Int) + (1 : Int)))) = (vst t.snd.fst x_1).fst) ∧ ((30 : Nat) = (30 : Nat) ∧ (List.map (fun (v : List Int) => List.take t.fst.toNat v) (vst t.snd.fst x).fst).append ((List.replicate (1 : Nat) []).set (0 : Nat) (List.drop (Int.toNat (0 : Int)) (List.take (Int.toNat t.fst) (((vst t.snd.fst x).snd.getD (Int.toNat (List.getD t.snd.fst (↑x : Int).toNat ((0 : Int), (0 : Int), ())).fst) (List.replicate (5 : Nat) (0 : Int))).set (Int.toNat (List.getD t.snd.fst (↑x : Int).toNat ((0 : Int), (0 : Int), ())).fst) (((vst t.snd.fst x).snd.getD (Int.toNat (List.getD t.snd.fst (↑x : Int).toNat ((0 : Int), (0 : Int), ())).fst) (List.replicate (5 : Nat) (0 : Int))).getD (Int.toNat (List.getD t.snd.fst (↑x : Int).toNat ((0 : Int), (0 : Int), ())).fst) (0 : Int) + (1 : Int)))))) = List.map (fun (v : List Int) => List.take t.fst.toNat v) (vst t.snd.fst x_1).fst) ∧ True) ∧ True)) ∧ (decide ((↑x : Int) < (↑(List.length t.snd.fst) : Int)) = false → k [Dat.mk (I).sl.sl (List.map (fun (v : List Int) => List.take t.fst.toNat v) (vst t.snd.fst x).fst), Dat.mk (Ty.err (71 : Nat)) (0 : Int)]))) := by kernel_rfl
theorem vcRows (a b : List (List Int)) (k : List Dat → Prop) : vcF ⟨Ev5, [(14, cInts)], [], [], []⟩ (anRows a b) (Tryd.f39.body.getD .skip) Tryd.f39.ntmps [(.tmp 4, .bool)] [⟨.sl (.sl I), a⟩, ⟨.sl (.sl I), b⟩] k = (
  ((!decide ((↑a.length : Int) = (↑b.length : Int))) = true → k [Dat.mk Ty.bool false]) ∧ ((!decide ((↑a.length : Int) = (↑b.length : Int))) = false → (∃ (x : Nat), (x ≤ a.length ∧ List.take x a = List.take x b) ∧ (a = a ∧ b = b ∧ (0 : Int) = (↑x : Int) ∧ True) ∧ True ∧ True) ∧ ∀ (x : Nat), x ≤ a.length ∧ List.take x a = List.take x b → (decide ((↑x : Int) < (↑a.length : Int)) = true → (0 : Int) ≤ (↑x : Int) ∧ (↑x : Int) < (↑a.length : Int) ∧ (0 : Int) ≤ (↑x : Int) ∧ (↑x : Int) < (↑b.length : Int) ∧ True ∧ ((!a.getD (↑x : Int).toNat [] == b.getD (↑x : Int).toNat []) = true → k [Dat.mk Ty.bool false]) ∧ ((!a.getD (↑x : Int).toNat [] == b.getD (↑x : Int).toNat []) = false → inK IntKind.i64 ((↑x : Int) + (1 : Int)) ∧ ∃ (x_1 : Nat), (x_1 ≤ a.length ∧ List.take x_1 a = List.take x_1 b) ∧ a.length - x_1 < a.length - x ∧ (a = a ∧ b = b ∧ (↑x : Int) + (1 : Int) = (↑x_1 : Int) ∧ True) ∧ True ∧ True)) ∧ (decide ((↑x : Int) < (↑a.length : Int)) = false → k [Dat.mk Ty.bool true]))) := by kernel_rfl
end Go.Proofs.YtbpoeigaoakdiaaDoor

/- Clocks that count: the functions keep their contracts. -/
namespace Go.Proofs.YtbpoeigaoakdiaaDoor
open Go.Vc

theorem getD_app {α : Type} (l : List α) (s z : α) (j : Nat) : (l ++ [s]).getD j z = if j = l.length then s else l.getD j z := by
  rw [List.getD_eq_getElem?_getD, List.getD_eq_getElem?_getD]
  split
  · rename_i h; subst h; simp
  · rename_i h
    by_cases hj : j < l.length
    · rw [List.getElem?_append_left hj]
    · rw [List.getElem?_eq_none (by simp; omega), List.getElem?_eq_none (by omega)]
theorem getD_set' {α : Type} (l : List α) (s z : α) (i j : Nat) : (l.set i s).getD j z = if i = j ∧ i < l.length then s else l.getD j z := by
  rw [List.getD_eq_getElem?_getD, List.getD_eq_getElem?_getD, List.getElem?_set]
  split
  · rename_i h; subst h
    split
    · rename_i h; rw [if_pos ⟨rfl, h⟩]; rfl
    · rename_i h; rw [if_neg (by omega), List.getElem?_eq_none (by omega)]
  · rename_i h; rw [if_neg (by omega)]


theorem okClone : PlainOk Tryd.prog [] 60 cClone := by
  refine plain_of (CxOk.mk' Ev5_ok (by kernel_rfl) mixed (gl := []) GOk.nil GoOk.nil noIt) Tryd.func60 (c := Tryd.f60.body.getD .skip) (rvs := [(.tmp 2, .sl I)]) (by kernel_rfl) (by kernel_rfl) (by kernel_rfl) ?_
  intro ds k ⟨hp, hk⟩ hwf
  obtain ⟨l, rfl, hl, -⟩ := dest1 hp
  clear hp hwf
  revert hk hl
  revert l
  intro (l : List Int) hk hl
  have hk : k [⟨.sl I, l⟩] := hk
  have hl : l.length ≤ 1000000000 := hl
  refine ⟨[], ?_⟩
  rw [vcClone]
  intro b hb
  refine ⟨fun h => ?_, fun _ => ⟨by simpa using hl, hk⟩⟩
  have := hb h
  subst this
  exact hk
end Go.Proofs.YtbpoeigaoakdiaaDoor

/- Sets in sets, bit by bit. -/
namespace Go.Proofs.YtbpoeigaoakdiaaDoor
open Go.Vc

theorem tb_succ (a k : Nat) : a.testBit (k + 1) = (a / 2).testBit k := Nat.testBit_succ a k
theorem tb_zero (a : Nat) : a.testBit 0 = decide (a % 2 = 1) := Nat.testBit_zero a

theorem subN_iff : ∀ (f a b : Nat), a ≤ f → (subN f a (b : Int) = true ↔ ∀ k, a.testBit k = true → b.testBit k = true) := by
  intro f
  induction f with
  | zero =>
    intro a b h
    have : a = 0 := by omega
    subst this
    simp [subN]
  | succ f ih =>
    intro a b h
    unfold subN
    by_cases h0 : a = 0
    · subst h0; simp
    · rw [if_neg h0]
      have e1 : (b : Int).tmod 2 = ((b % 2 : Nat) : Int) := (Int.ofNat_tmod b 2).symm
      have e2 : (b : Int).tdiv 2 = ((b / 2 : Nat) : Int) := (Int.ofNat_tdiv b 2).symm
      rw [e1, e2]
      by_cases hc : a % 2 = 1 ∧ ((b % 2 : Nat) : Int) = 0
      · rw [if_pos hc]
        simp only [Bool.false_eq_true, false_iff]
        intro hall
        have := hall 0 (by rw [tb_zero]; simp [hc.1])
        rw [tb_zero, decide_eq_true_eq] at this
        have := hc.2
        omega
      · rw [if_neg hc, ih (a / 2) (b / 2) (by omega)]
        constructor
        · intro hall k hk
          cases k with
          | zero =>
            rw [tb_zero, decide_eq_true_eq] at hk
            rw [tb_zero, decide_eq_true_eq]
            rcases Nat.mod_two_eq_zero_or_one b with hb | hb
            · exact absurd ⟨hk, by rw [hb]; rfl⟩ hc
            · exact hb
          | succ k => rw [tb_succ] at hk ⊢; exact hall k hk
        · intro hall k hk
          rw [← tb_succ] at hk ⊢
          exact hall (k + 1) hk

theorem subB_iff (a b : Nat) : subB (a : Int) (b : Int) = true ↔ ∀ k, a.testBit k = true → b.testBit k = true := subN_iff a a b (Nat.le_refl _)
theorem bitB_nat (a k : Nat) : bitB (a : Int) (k : Int) = a.testBit k := by
  unfold bitB
  simp
end Go.Proofs.YtbpoeigaoakdiaaDoor

/- Whatever else goes so has it all: the last step of the law of the least order. -/
namespace Go.Proofs.YtbpoeigaoakdiaaDoor
open Go.Vc

theorem good_prc {t : Tr} (g : Good t) : ∀ i, i < t.2.1.length → prc t.2.1 i < 5 := by
  intro i hi
  have := g.ev i hi
  have := g.procs
  unfold prc
  omega
theorem good_frm {t : Tr} (g : Good t) : ∀ i, i < t.2.1.length → frm t.2.1 i < (i : Int) := by
  intro i hi
  have := g.ev i hi
  unfold frm
  omega
theorem prc_eq {t : Tr} (g : Good t) {i j : Nat} (hi : i < t.2.1.length) (hj : j < t.2.1.length) : prc t.2.1 j = prc t.2.1 i ↔ (t.2.1.getD j (0, 0, ())).1 = (t.2.1.getD i (0, 0, ())).1 := by
  have h1 := g.ev i hi
  have h2 := g.ev j hj
  unfold prc
  omega
theorem befN_at {t : Tr} {i : Nat} (hi : i < t.2.1.length) : (befN t).getD i 0 = bB t.2.1 i := bst_keep t.2.1 hi t.2.1.length hi
theorem bef_at {t : Tr} (h : chk t = 0) {i : Nat} (hi : i < t.2.1.length) : (bef t).getD i (0 : Int) = ((bB t.2.1 i : Nat) : Int) := by
  unfold bef
  rw [if_pos h, ints_getD, befN_at hi]
theorem bef_len {t : Tr} (h : chk t = 0) : (bef t).length = t.2.1.length := by
  unfold bef
  rw [if_pos h, ints_len]
  exact (bst_len _ _).1

theorem must_bit {t : Tr} (g : Good t) {i j : Nat} (hi : i < t.2.1.length) (hj : j < i) (h : mustP t i j) : bitB ((bB t.2.1 i : Nat) : Int) (j : Int) = true := by
  rw [bitB_nat]
  refine bB_must (good_prc g) (good_frm g) hi hj (h.imp ?_ id)
  exact (prc_eq g hi (by omega)).2

theorem bit_sub {t : Tr} (g : Good t) {i j : Nat} (hi : i < t.2.1.length) (h : bitB ((bB t.2.1 i : Nat) : Int) (j : Int) = true) : subB ((bB t.2.1 j : Nat) : Int) ((bB t.2.1 i : Nat) : Int) = true := by
  rw [bitB_nat] at h
  rw [subB_iff]
  intro k hk
  exact bB_trans (good_prc g) (good_frm g) hi h hk

theorem bB_bound {t : Tr} (g : Good t) {i : Nat} (hi : i < t.2.1.length) : ((bB t.2.1 i : Nat) : Int) < (2 : Int) ^ i := by
  have := bB_lt (good_prc g) (good_frm g) hi
  have e : (2 : Int) ^ i = ((2 ^ i : Nat) : Int) := by rw [Int.natCast_pow]; rfl
  rw [e]
  exact Int.ofNat_lt.2 this

theorem good_all {t : Tr} (g : Good t) {o : List Int} (h : goodP t o true t.2.1.length 0) : ∀ i, i < t.2.1.length → subB ((bB t.2.1 i : Nat) : Int) (o.getD i 0) = true := by
  obtain ⟨hl, hp, -⟩ := h rfl
  intro i
  induction i using Nat.strongRecOn with
  | _ i ih =>
    intro hi
    cases i with
    | zero =>
      have := bB_lt (good_prc g) (good_frm g) hi
      have : bB t.2.1 0 = 0 := by simpa using this
      rw [this]
      rfl
    | succ m =>
      obtain ⟨h0, -, -⟩ := hp (m + 1) 0 hi (by omega)
      obtain ⟨n, hn⟩ := Int.eq_ofNat_of_zero_le h0
      rw [hn, subB_iff]
      intro k hk
      obtain ⟨j, hj, hjk⟩ := (bB_bit (good_prc g) (good_frm g) hi k).1 hk
      have hjl : j < m + 1 := hj.1
      obtain ⟨-, h2, h3⟩ := hp (m + 1) j hi hjl
      have hb := h2 (hj.2.imp (fun h => (prc_eq g hi (by omega)).1 h.1) id)
      have hs := h3 hb
      rw [hn, bitB_nat] at hb
      rcases hjk with hjk | hjk
      · have hsub := ih j hjl (by omega)
        cases j with
        | zero =>
          have := bB_lt (good_prc g) (good_frm g) (i := 0) (by omega)
          have : bB t.2.1 0 = 0 := by simpa using this
          rw [this] at hjk
          simp at hjk
        | succ q =>
          obtain ⟨h0', -, -⟩ := hp (q + 1) 0 (by omega) (by omega)
          obtain ⟨n', hn'⟩ := Int.eq_ofNat_of_zero_le h0'
          rw [hn', subB_iff] at hsub
          rw [hn', hn, subB_iff] at hs
          exact hs k (hsub k hjk)
      · rw [hjk]; exact hb
end Go.Proofs.YtbpoeigaoakdiaaDoor

/- Clocks that count: plain clocks and vectors keep their contracts. -/
namespace Go.Proofs.YtbpoeigaoakdiaaDoor
open Go.Vc

theorem plst_len (l : List Ev) : ∀ i, (plst l i).1.length = i ∧ (plst l i).2.length = 5
  | 0 => ⟨rfl, rfl⟩
  | i + 1 => by
    obtain ⟨h1, h2⟩ := plst_len l i
    simp only [plst, List.length_append, List.length_cons, List.length_nil, List.length_set]
    exact ⟨by omega, h2⟩
theorem plst_bd (l : List Ev) : ∀ i j, (0 ≤ (plst l i).1.getD j 0 ∧ (plst l i).1.getD j 0 ≤ (i : Int)) ∧ (0 ≤ (plst l i).2.getD j 0 ∧ (plst l i).2.getD j 0 ≤ (i : Int))
  | 0, j => by
    refine ⟨⟨by simp [plst], by simp [plst]⟩, ?_⟩
    simp only [plst, List.getD_eq_getElem?_getD, List.getElem?_replicate]
    split <;> simp
  | i + 1, j => by
    have ih := plst_bd l i
    have h1 := ih (l.getD i (0, 0, ())).1.toNat
    have h2 := ih (l.getD i (0, 0, ())).2.1.toNat
    have h3 := ih j
    simp only [plst, getD_app, getD_set']
    refine ⟨?_, ?_⟩
    · split
      · split <;> omega
      · omega
    · split
      · split <;> omega
      · omega

theorem plain_vc (t : Tr) (k : List Dat → Prop) (hk : k [⟨.sl I, plain t⟩, ⟨tErr, chk t⟩]) : vcF ⟨Ev5, [(10, cCheck)], [], [], []⟩ (anPlain t) (Tryd.f37.body.getD .skip) Tryd.f37.ntmps [(.tmp 2, .sl I), (.tmp 3, tErr)] [⟨tTr, t⟩] k := by
  rw [vcPlain]
  simp only [decide_eq_true_eq, decide_eq_false_iff_not, and_true, true_and, Bool.not_eq_true', Bool.not_eq_false', Int.toNat_natCast, eq_self, inK_i64, List.replicate, List.set_cons_zero, List.length_cons, List.length_nil]
  refine ⟨fun h => ?_, fun h => ⟨⟨0, Nat.zero_le _, rfl, rfl, rfl⟩, fun x hx => ⟨fun hlt => ?_, fun hge => ?_⟩⟩⟩
  · have : plain t = [] := by unfold plain; rw [if_neg h]
    rw [← this]; exact hk
  · have g := good_of h
    have hlen := g.len
    have hpr := g.procs
    have hxl : x < t.2.1.length := by omega
    obtain ⟨p0, p1, f0, f1, _⟩ := g.ev x hxl
    obtain ⟨l1, l2⟩ := plst_len t.2.1 x
    have b1 := plst_bd t.2.1 x (t.2.1.getD x (0, 0, ())).1.toNat
    have b2 := plst_bd t.2.1 x (t.2.1.getD x (0, 0, ())).2.1.toNat
    refine ⟨by omega, hlt, p0, by omega, fun hf => ?_, fun hf => ?_⟩
    · refine ⟨hf, by omega, by omega, by omega, by omega, p0, by omega, by omega, x + 1, by omega, by omega, by omega, ?_, ?_⟩
      · simp only [plst, if_pos hf]
      · simp only [plst, if_pos hf]; rfl
    · refine ⟨by omega, by omega, by omega, p0, by omega, by omega, x + 1, by omega, by omega, by omega, ?_, ?_⟩
      · simp only [plst, if_neg hf]
      · simp only [plst, if_neg hf]; rfl
  · have hy2 : x = t.2.1.length := by omega
    subst hy2
    have : plain t = (plst t.2.1 t.2.1.length).1 := by unfold plain; rw [if_pos h]
    rw [← this]
    rw [h] at hk
    exact hk

theorem okPlain : PlainOk Tryd.prog [] 37 cPlain := by
  refine plain_of (CxOk.mk' Ev5_ok (by kernel_rfl) mixed (gl := []) (GOk.cons okCheck Tryd.func10 (by kernel_rfl) (by kernel_rfl) GOk.nil) GoOk.nil noIt) Tryd.func37 (c := Tryd.f37.body.getD .skip) (rvs := [(.tmp 2, .sl I), (.tmp 3, tErr)]) (by kernel_rfl) (by kernel_rfl) (by kernel_rfl) ?_
  intro ds k ⟨hp, hk⟩ hwf
  obtain ⟨t, rfl, -⟩ := dest1 hp
  exact ⟨anPlain t, plain_vc t k hk⟩

theorem vst_len (l : List Ev) : ∀ i, (vst l i).1.length = i ∧ (vst l i).2.length = 5
  | 0 => ⟨rfl, rfl⟩
  | i + 1 => by
    obtain ⟨h1, h2⟩ := vst_len l i
    simp only [vst, List.length_append, List.length_cons, List.length_nil, List.length_set]
    exact ⟨by omega, h2⟩
def Vok (n : Nat) (v : List Int) : Prop := v.length = 5 ∧ ∀ q, 0 ≤ v.getD q 0 ∧ v.getD q 0 ≤ (n : Int)
theorem vjoin_len (v w : List Int) (p : Nat) : (vjoin v w p).length = 5 := by simp [vjoin]
theorem vjoin_at (v w : List Int) (p q : Nat) : (vjoin v w p).getD q 0 = if q < 5 then (if q < p then max (v.getD q 0) (w.getD q 0) else v.getD q 0) else 0 := by
  unfold vjoin
  rw [List.getD_eq_getElem?_getD, List.getElem?_map]
  by_cases h : q < 5
  · rw [if_pos h, List.getElem?_range h]; rfl
  · rw [if_neg h, List.getElem?_eq_none (by simp; omega)]; rfl
theorem list_ext {v w : List Int} {n : Nat} (hv : v.length = n) (hw : w.length = n) (h : ∀ q, q < n → v.getD q 0 = w.getD q 0) : v = w := by
  apply List.ext_getElem (by omega)
  intro i h1 h2
  have := h i (by omega)
  rw [List.getD_eq_getElem?_getD, List.getD_eq_getElem?_getD, List.getElem?_eq_getElem h1, List.getElem?_eq_getElem h2] at this
  exact this
theorem vjoin_zero {v w : List Int} (hv : v.length = 5) : vjoin v w 0 = v := by
  refine list_ext (vjoin_len v w 0) hv fun q hq => ?_
  rw [vjoin_at, if_pos hq, if_neg (by omega)]
theorem vjoin_step {v w : List Int} {p : Nat} (hp : p < 5) : (vjoin v w p).set p (max ((vjoin v w p).getD p 0) (w.getD p 0)) = vjoin v w (p + 1) := by
  refine list_ext (by rw [List.length_set, vjoin_len]) (vjoin_len v w (p + 1)) fun q hq => ?_
  rw [getD_set', vjoin_len, vjoin_at v w (p + 1) q, vjoin_at v w p p, vjoin_at v w p q, if_pos hp, if_pos hq, if_pos hq, if_neg (Nat.lt_irrefl p)]
  by_cases h : p = q
  · subst h
    rw [if_pos ⟨rfl, hp⟩, if_pos (by omega)]
  · rw [if_neg (fun e => h e.1)]
    by_cases h2 : q < p
    · rw [if_pos h2, if_pos (by omega)]
    · rw [if_neg h2, if_neg (by omega)]
theorem vjoin_ok {n : Nat} {v w : List Int} (hv : Vok n v) (hw : Vok n w) (p : Nat) : Vok n (vjoin v w p) := by
  refine ⟨vjoin_len v w p, fun q => ?_⟩
  rw [vjoin_at]
  have h1 := hv.2 q
  have h2 := hw.2 q
  split
  · split <;> omega
  · omega
theorem vmore_ok {n : Nat} {v : List Int} (hv : Vok n v) (p : Nat) : Vok (n + 1) (vmore v p) := by
  refine ⟨by unfold vmore; rw [List.length_set]; exact hv.1, fun q => ?_⟩
  unfold vmore
  rw [getD_set']
  have h1 := hv.2 q
  have h2 := hv.2 p
  split <;> omega
theorem Vok.mono {n : Nat} {v : List Int} (hv : Vok n v) : Vok (n + 1) v := ⟨hv.1, fun q => by have := hv.2 q; omega⟩
theorem getD_any {α : Type} {l : List α} {i : Nat} {a b : α} (h : i < l.length) : l.getD i a = l.getD i b := by
  rw [List.getD_eq_getElem?_getD, List.getD_eq_getElem?_getD, List.getElem?_eq_getElem h]; rfl
/-- the vector of event i -/
def vec (l : List Ev) (i : Nat) : List Int := (vst l (i + 1)).1.getD i []
def vpre (l : List Ev) (i : Nat) : List Int :=
  if 0 ≤ frm l i then vjoin ((vst l i).2.getD (prc l i) []) ((vst l i).1.getD (frm l i).toNat []) 5 else (vst l i).2.getD (prc l i) []
theorem vst_succ (l : List Ev) (i : Nat) : vst l (i + 1) = ((vst l i).1 ++ [vmore (vpre l i) (prc l i)], (vst l i).2.set (prc l i) (vmore (vpre l i) (prc l i))) := rfl
theorem vec_eq (l : List Ev) (i : Nat) : vec l i = vmore (vpre l i) (prc l i) := by
  unfold vec
  rw [vst_succ]
  simp only [getD_app, (vst_len l i).1, if_true]
theorem vst_ok (l : List Ev) (hp : ∀ i, i < l.length → prc l i < 5) (hf : ∀ i, i < l.length → frm l i < (i : Int)) : ∀ m, m ≤ l.length →
    (∀ i, i < m → Vok m ((vst l m).1.getD i [])) ∧ (∀ p, p < 5 → Vok m ((vst l m).2.getD p []))
  | 0, _ => by
    refine ⟨fun i hi => absurd hi (Nat.not_lt_zero _), fun p hp => ?_⟩
    have : (vst l 0).2.getD p [] = List.replicate 5 (0 : Int) := by
      show (List.replicate 5 (List.replicate 5 (0 : Int))).getD p [] = _
      rw [List.getD_eq_getElem?_getD, List.getElem?_replicate, if_pos hp]; rfl
    rw [this]
    refine ⟨rfl, fun q => ?_⟩
    rw [List.getD_eq_getElem?_getD, List.getElem?_replicate]
    split <;> simp
  | m + 1, hm => by
    obtain ⟨h1, h2⟩ := vst_ok l hp hf m (by omega)
    obtain ⟨l1, l2⟩ := vst_len l m
    have hpm := hp m (by omega)
    have hfm := hf m (by omega)
    have hpre : Vok m (vpre l m) := by
      unfold vpre
      split
      · exact vjoin_ok (h2 _ hpm) (h1 _ (by omega)) 5
      · exact h2 _ hpm
    have hmo := vmore_ok hpre (prc l m)
    rw [vst_succ]
    refine ⟨fun i hi => ?_, fun p hp5 => ?_⟩
    · simp only [getD_app, l1]
      split
      · exact hmo
      · exact (h1 i (by omega)).mono
    · simp only [getD_set']
      split
      · exact hmo
      · exact (h2 p hp5).mono

theorem vecs_vc (t : Tr) (k : List Dat → Prop) (hk : k [⟨.sl (.sl I), vecs t⟩, ⟨tErr, chk t⟩]) : vcF ⟨Ev5, [(10, cCheck), (60, cClone)], [], [], []⟩ (anVecs t) (Tryd.f38.body.getD .skip) Tryd.f38.ntmps [(.tmp 2, .sl (.sl I)), (.tmp 3, tErr)] [⟨tTr, t⟩] k := by
  rw [vcVecs]
  simp only [decide_eq_true_eq, decide_eq_false_iff_not, and_true, true_and, Bool.not_eq_true', Bool.not_eq_false', Int.toNat_natCast, eq_self, inK_i64, List.replicate, List.set_cons_zero, List.length_cons, List.length_nil, List.length_map, Int.toNat_zero, List.drop_zero]
  refine ⟨fun h => ?_, fun h => ⟨⟨0, Nat.zero_le _, rfl, rfl, rfl, rfl⟩, fun x hx => ⟨fun hlt => ?_, fun hge => ?_⟩⟩⟩
  · have : vecs t = [] := by unfold vecs; rw [if_neg h]
    rw [← this]; exact hk
  · have g := good_of h
    have hlen := g.len
    have hpr := g.procs
    have hxl : x < t.2.1.length := by omega
    have he := g.ev x hxl
    have hpp := good_prc g x hxl
    have hff := good_frm g x hxl
    obtain ⟨l1, l2⟩ := vst_len t.2.1 x
    obtain ⟨o1, o2⟩ := vst_ok t.2.1 (good_prc g) (good_frm g) x (by omega)
    have hsuc := vst_succ t.2.1 x
    have e1 : (t.2.1.getD x (0, 0, ())).1.toNat = prc t.2.1 x := rfl
    have e2 : (t.2.1.getD x (0, 0, ())).2.1 = frm t.2.1 x := rfl
    have e3 : (t.2.1.getD x (0, 0, ())).1 = (prc t.2.1 x : Int) := by unfold prc; omega
    simp only [e1, e2] at he ⊢
    simp only [e3] at he ⊢
    have d1 : ∀ a, (vst t.2.1 x).2.getD (prc t.2.1 x) a = (vst t.2.1 x).2.getD (prc t.2.1 x) [] := fun a => getD_any (by omega)
    have d2 : ∀ a, 0 ≤ frm t.2.1 x → (vst t.2.1 x).1.getD (frm t.2.1 x).toNat a = (vst t.2.1 x).1.getD (frm t.2.1 x).toNat [] := fun a h0 => getD_any (by omega)
    have fin : ∀ w, w = vpre t.2.1 x → (vst t.2.1 x).2.set (prc t.2.1 x) (w.set (prc t.2.1 x) (w.getD (prc t.2.1 x) 0 + 1)) = (vst t.2.1 (x + 1)).2 ∧ (vst t.2.1 x).1.append [w.set (prc t.2.1 x) (w.getD (prc t.2.1 x) 0 + 1)] = (vst t.2.1 (x + 1)).1 ∧
        ((vst t.2.1 x).1.map fun v => v.take t.1.toNat).append [(w.set (prc t.2.1 x) (w.getD (prc t.2.1 x) 0 + 1)).take t.1.toNat] = (vst t.2.1 (x + 1)).1.map fun v => v.take t.1.toNat := by
      rintro w rfl
      rw [hsuc]
      refine ⟨rfl, rfl, ?_⟩
      rw [List.map_append]
      rfl
    have hpre : Vok x (vpre t.2.1 x) := by
      unfold vpre
      split
      · exact vjoin_ok (o2 _ hpp) (o1 _ (by omega)) 5
      · exact o2 _ hpp
    have hvl := (o2 _ hpp).1
    have hb := hpre.2 (prc t.2.1 x)
    simp only [d1, Int.toNat_natCast]
    refine ⟨by omega, hlt, by omega, by omega, fun hf => ?_, fun hf => ?_⟩
    · simp only [d2 _ hf]
      refine ⟨hf, by omega, ⟨0, by omega, by omega, ?_⟩, fun y hy => ⟨fun hy5 => ?_, fun hy5 => ?_⟩⟩
      · exact (vjoin_zero hvl).symm
      · exact ⟨by omega, by omega, by omega, by omega, by omega, by omega, by omega, y + 1, by omega, by omega, by omega, vjoin_step (by omega)⟩
      · have hy2 : y = 5 := by omega
        subst hy2
        have hw : vjoin ((vst t.2.1 x).2.getD (prc t.2.1 x) []) ((vst t.2.1 x).1.getD (frm t.2.1 x).toNat []) 5 = vpre t.2.1 x := by unfold vpre; rw [if_pos hf]
        simp only [hw]
        obtain ⟨f1, f2, f3⟩ := fin _ rfl
        have hle : ∀ w : List Int, w.length = 5 → (w.take t.1.toNat).length ≤ 1000000000 := fun w hw => by rw [List.length_take]; omega
        exact ⟨by omega, by omega, by omega, by omega, by omega, by omega, by omega, by omega, by omega, by omega, by omega, hle _ (by rw [List.length_set]; exact hpre.1), by omega, by omega, x + 1, by omega, by omega, by omega, f1, f2, f3⟩
    · have hw : (vst t.2.1 x).2.getD (prc t.2.1 x) [] = vpre t.2.1 x := by unfold vpre; rw [if_neg hf]
      simp only [hw]
      obtain ⟨f1, f2, f3⟩ := fin _ rfl
      have hle : ∀ w : List Int, w.length = 5 → (w.take t.1.toNat).length ≤ 1000000000 := fun w hw => by rw [List.length_take]; omega
      exact ⟨by omega, by omega, by omega, by omega, by omega, by omega, by omega, by omega, by omega, by omega, by omega, hle _ (by rw [List.length_set]; exact hpre.1), by omega, by omega, x + 1, by omega, by omega, by omega, f1, f2, f3⟩
  · have hy2 : x = t.2.1.length := by omega
    subst hy2
    have : vecs t = (vst t.2.1 t.2.1.length).1.map (fun v => v.take t.1.toNat) := by unfold vecs; rw [if_pos h]
    rw [← this]
    rw [h] at hk
    exact hk

theorem okVecs : PlainOk Tryd.prog [] 38 cVecs := by
  refine plain_of (CxOk.mk' Ev5_ok (by kernel_rfl) mixed (gl := []) (GOk.cons okCheck Tryd.func10 (by kernel_rfl) (by kernel_rfl) (GOk.cons okClone Tryd.func60 (by kernel_rfl) (by kernel_rfl) GOk.nil)) GoOk.nil noIt) Tryd.func38 (c := Tryd.f38.body.getD .skip) (rvs := [(.tmp 2, .sl (.sl I)), (.tmp 3, tErr)]) (by kernel_rfl) (by kernel_rfl) (by kernel_rfl) ?_
  intro ds k ⟨hp, hk⟩ hwf
  obtain ⟨t, rfl, -⟩ := dest1 hp
  exact ⟨anVecs t, vecs_vc t k hk⟩
end Go.Proofs.YtbpoeigaoakdiaaDoor

/- Clocks that count: each comes from that of the one ahead at its process and that of the one it heard of; who is below is before. -/
namespace Go.Proofs.YtbpoeigaoakdiaaDoor
open Go.Vc

theorem last_gen {α : Type} (l : List Ev) (z z0 : α) (val : Nat → α) (st : Nat → List α) (hp : ∀ i, i < l.length → prc l i < 5) (hl : ∀ m, (st m).length = 5)
    (h0 : ∀ p, p < 5 → (st 0).getD p z = z0) (hs : ∀ m, st (m + 1) = (st m).set (prc l m) (val m)) : ∀ m, m ≤ l.length → ∀ p, p < 5 →
    ((st m).getD p z = z0 ∧ ∀ j, j < m → prc l j ≠ p) ∨ ∃ j, j < m ∧ prc l j = p ∧ (∀ j', j < j' → j' < m → prc l j' ≠ p) ∧ (st m).getD p z = val j := by
  intro m
  induction m with
  | zero => exact fun _ p hp5 => .inl ⟨h0 p hp5, fun j hj => by omega⟩
  | succ m ih =>
    intro hm p hp5
    rw [hs, getD_set', hl]
    by_cases h : prc l m = p
    · rw [if_pos ⟨h, by rw [h]; exact hp5⟩]
      exact .inr ⟨m, by omega, h, fun j' h1 h2 => by omega, rfl⟩
    · rw [if_neg (fun e => h e.1)]
      rcases ih (by omega) p hp5 with ⟨h1, h2⟩ | ⟨j, h1, h2, h3, h4⟩
      · refine .inl ⟨h1, fun j hj => ?_⟩
        by_cases hjm : j = m
        · rw [hjm]; exact h
        · exact h2 j (by omega)
      · refine .inr ⟨j, by omega, h2, fun j' hj1 hj2 => ?_, h4⟩
        by_cases hjm : j' = m
        · rw [hjm]; exact h
        · exact h3 j' hj1 (by omega)

theorem keep_gen {α : Type} (z : α) (val : Nat → α) (st : Nat → List α) (hl : ∀ m, (st m).length = m) (hs : ∀ m, st (m + 1) = st m ++ [val m]) {i : Nat} : ∀ m, i < m → (st m).getD i z = val i := by
  intro m
  induction m with
  | zero => intro h; omega
  | succ m ih =>
    intro h
    rw [hs, getD_app, hl]
    by_cases hm : i = m
    · rw [if_pos hm, hm]
    · rw [if_neg hm]; exact ih (by omega)

/-- the plain clock of event i -/
def pl (l : List Ev) (i : Nat) : Int := (if 0 ≤ frm l i then max ((plst l i).2.getD (prc l i) 0) ((plst l i).1.getD (frm l i).toNat 0) else (plst l i).2.getD (prc l i) 0) + 1
theorem plst_succ (l : List Ev) (i : Nat) : plst l (i + 1) = ((plst l i).1 ++ [pl l i], (plst l i).2.set (prc l i) (pl l i)) := rfl
theorem pl_keep (l : List Ev) {i m : Nat} (h : i < m) : (plst l m).1.getD i 0 = pl l i :=
  keep_gen 0 (pl l) (fun m => (plst l m).1) (fun m => (plst_len l m).1) (fun m => by rw [plst_succ]) m h

theorem pl_rec {l : List Ev} (hp : ∀ i, i < l.length → prc l i < 5) (hf : ∀ i, i < l.length → frm l i < (i : Int)) {i : Nat} (hi : i < l.length) :
    ∃ a b, pl l i = max a b + 1 ∧ (a = 0 ∨ ∃ j, justB l i j ∧ a = pl l j) ∧ (b = 0 ∨ ∃ j, justB l i j ∧ b = pl l j) ∧ ∀ j, justB l i j → a = pl l j ∨ b = pl l j := by
  have hlast := last_gen l (0 : Int) 0 (pl l) (fun m => (plst l m).2) hp (fun m => (plst_len l m).2) (fun p hp5 => by
    show (List.replicate 5 (0 : Int)).getD p 0 = 0
    rw [List.getD_eq_getElem?_getD, List.getElem?_replicate, if_pos hp5]; rfl) (fun m => by rw [plst_succ]) i (by omega) (prc l i) (hp i hi)
  have hb := (plst_bd l i (prc l i)).2
  refine ⟨(plst l i).2.getD (prc l i) 0, if 0 ≤ frm l i then (plst l i).1.getD (frm l i).toNat 0 else 0, ?_, ?_, ?_, ?_⟩
  · unfold pl
    split
    · rfl
    · congr 1; omega
  · rcases hlast with ⟨h1, _⟩ | ⟨j, h1, h2, h3, h4⟩
    · exact .inl h1
    · exact .inr ⟨j, ⟨h1, .inl ⟨h2, h3⟩⟩, h4⟩
  · split
    · rename_i h0
      have := hf i hi
      exact .inr ⟨(frm l i).toNat, ⟨by omega, .inr (by omega)⟩, pl_keep l (by omega)⟩
    · exact .inl rfl
  · intro j hj
    rcases hj with ⟨hji, ⟨h1, h2⟩ | h1⟩
    · left
      rcases hlast with ⟨_, k2⟩ | ⟨j', k1, k2, k3, k4⟩
      · exact absurd h1 (k2 j hji)
      · have : j = j' := by
          rcases Nat.lt_trichotomy j j' with h | h | h
          · exact absurd k2 (h2 j' h k1)
          · exact h
          · exact absurd h1 (k3 j h hji)
        rw [this]; exact k4
    · right
      rw [if_pos (by omega), show (frm l i).toNat = j by omega]
      exact pl_keep l hji
theorem pl_pos (l : List Ev) (i : Nat) : 1 ≤ pl l i := by
  have h1 := (plst_bd l i (prc l i)).2
  unfold pl
  split <;> omega
theorem pl_le (l : List Ev) (i : Nat) : pl l i ≤ (i : Int) + 1 := by
  have h1 := (plst_bd l i (prc l i)).2
  have h2 := (plst_bd l i (frm l i).toNat).1
  unfold pl
  split <;> omega
theorem pl_less {l : List Ev} (hp : ∀ i, i < l.length → prc l i < 5) (hf : ∀ i, i < l.length → frm l i < (i : Int)) {i : Nat} (hi : i < l.length) {k : Nat} (hk : (bB l i).testBit k = true) : pl l k < pl l i := by
  induction i using Nat.strongRecOn with
  | _ i ih =>
    obtain ⟨a, b, hS, c1, c2, hall⟩ := pl_rec hp hf hi
    clear c1 c2
    obtain ⟨j, hj, hkj⟩ := (bB_bit hp hf hi k).1 hk
    have hji := hj.1
    have h1 : pl l j < pl l i := by
      rcases hall j hj with h | h <;> omega
    rcases hkj with h | h
    · have := ih j hji (by omega) h
      omega
    · rw [h]; exact h1
theorem pl_near {l : List Ev} (hp : ∀ i, i < l.length → prc l i < 5) (hf : ∀ i, i < l.length → frm l i < (i : Int)) {i : Nat} (hi : i < l.length) :
    (∃ k, (bB l i).testBit k = true ∧ pl l k + 1 = pl l i) ∨ (pl l i = 1 ∧ bB l i = 0) := by
  obtain ⟨a, b, hS, ha, hb, hall⟩ := pl_rec hp hf hi
  have bit : ∀ j, justB l i j → (bB l i).testBit j = true := fun j hj => (bB_bit hp hf hi j).2 ⟨j, hj, .inr rfl⟩
  have zero : a = 0 → b = 0 → pl l i = 1 ∧ bB l i = 0 := by
    clear ha hb
    intro h1 h2
    refine ⟨by omega, Nat.eq_of_testBit_eq fun k => ?_⟩
    rw [Nat.zero_testBit]
    cases hq : (bB l i).testBit k with
    | false => rfl
    | true =>
      obtain ⟨j, hj, _⟩ := (bB_bit hp hf hi k).1 hq
      have := pl_pos l j
      rcases hall j hj with h | h <;> omega
  rcases ha with ha | ⟨j, hj, ha⟩ <;> rcases hb with hb | ⟨j', hj', hb⟩
  · exact .inr (zero ha hb)
  · have := pl_pos l j'
    exact .inl ⟨j', bit j' hj', by omega⟩
  · have := pl_pos l j
    exact .inl ⟨j, bit j hj, by omega⟩
  · by_cases h : a ≤ b
    · exact .inl ⟨j', bit j' hj', by omega⟩
    · exact .inl ⟨j, bit j hj, by omega⟩

/-! Vectors. -/
def V (l : List Ev) (i q : Nat) : Int := (vec l i).getD q 0
theorem vec_keep (l : List Ev) {i m : Nat} (h : i < m) : (vst l m).1.getD i [] = vec l i :=
  keep_gen [] (vec l) (fun m => (vst l m).1) (fun m => (vst_len l m).1) (fun m => by rw [vst_succ, vec_eq]) m h

theorem vec_rec {l : List Ev} (hp : ∀ i, i < l.length → prc l i < 5) (hf : ∀ i, i < l.length → frm l i < (i : Int)) {i : Nat} (hi : i < l.length) :
    ∃ a b : Nat → Int, (∀ q, q < 5 → V l i q = max (a q) (b q) + (if prc l i = q then 1 else 0)) ∧ (a = (fun _ => 0) ∨ ∃ j, justB l i j ∧ a = V l j) ∧ (b = (fun _ => 0) ∨ ∃ j, justB l i j ∧ b = V l j) ∧ ∀ j, justB l i j → a = V l j ∨ b = V l j := by
  have hlast := last_gen l ([] : List Int) (List.replicate 5 0) (vec l) (fun m => (vst l m).2) hp (fun m => (vst_len l m).2) (fun p hp5 => by
    show (List.replicate 5 (List.replicate 5 (0 : Int))).getD p [] = _
    rw [List.getD_eq_getElem?_getD, List.getElem?_replicate, if_pos hp5]; rfl) (fun m => by rw [vst_succ, vec_eq]) i (by omega) (prc l i) (hp i hi)
  obtain ⟨o1, o2⟩ := vst_ok l hp hf i (by omega)
  have hb := o2 (prc l i) (hp i hi)
  have z5 : ∀ q, (List.replicate 5 (0 : Int)).getD q 0 = 0 := by
    intro q
    rw [List.getD_eq_getElem?_getD, List.getElem?_replicate]
    split <;> rfl
  refine ⟨fun q => ((vst l i).2.getD (prc l i) []).getD q 0, if 0 ≤ frm l i then (fun q => ((vst l i).1.getD (frm l i).toNat []).getD q 0) else (fun _ => 0), ?_, ?_, ?_, ?_⟩
  · intro q hq
    have hlen : (vpre l i).length = 5 := by
      unfold vpre
      split
      · exact vjoin_len ..
      · exact hb.1
    have hat : (vpre l i).getD q 0 = max (((vst l i).2.getD (prc l i) []).getD q 0) ((if 0 ≤ frm l i then (fun q => ((vst l i).1.getD (frm l i).toNat []).getD q 0) else (fun _ => 0)) q) := by
      unfold vpre
      split
      · rw [vjoin_at, if_pos hq, if_pos hq]
      · have := hb.2 q
        show ((vst l i).2.getD (prc l i) []).getD q 0 = max _ 0
        omega
    unfold V
    rw [vec_eq]
    unfold vmore
    rw [getD_set', hlen]
    by_cases h : prc l i = q
    · subst h
      rw [if_pos ⟨rfl, hp i hi⟩, if_pos rfl, hat]
    · rw [if_neg (fun e => h e.1), if_neg h, hat, Int.add_zero]
  · rcases hlast with ⟨h1, _⟩ | ⟨j, h1, h2, h3, h4⟩
    · left
      funext q
      rw [h1]; exact z5 q
    · refine .inr ⟨j, ⟨h1, .inl ⟨h2, h3⟩⟩, ?_⟩
      funext q
      rw [h4]; rfl
  · split
    · rename_i h0
      have := hf i hi
      refine .inr ⟨(frm l i).toNat, ⟨by omega, .inr (by omega)⟩, ?_⟩
      funext q
      rw [vec_keep l (by omega)]; rfl
    · exact .inl rfl
  · intro j hj
    rcases hj with ⟨hji, ⟨h1, h2⟩ | h1⟩
    · left
      rcases hlast with ⟨_, k2⟩ | ⟨j', k1, k2, k3, k4⟩
      · exact absurd h1 (k2 j hji)
      · have : j = j' := by
          rcases Nat.lt_trichotomy j j' with h | h | h
          · exact absurd k2 (h2 j' h k1)
          · exact h
          · exact absurd h1 (k3 j h hji)
        funext q
        rw [this, k4]; rfl
    · right
      rw [if_pos (by omega), show (frm l i).toNat = j by omega]
      funext q
      rw [vec_keep l hji]; rfl

theorem V_nonneg {l : List Ev} (hp : ∀ i, i < l.length → prc l i < 5) (hf : ∀ i, i < l.length → frm l i < (i : Int)) {i : Nat} (hi : i < l.length) (q : Nat) : 0 ≤ V l i q := by
  have := ((vst_ok l hp hf (i + 1) (by omega)).1 i (by omega)).2 q
  exact this.1
/-- A: who is before has no more. -/
theorem V_mono {l : List Ev} (hp : ∀ i, i < l.length → prc l i < 5) (hf : ∀ i, i < l.length → frm l i < (i : Int)) {i : Nat} (hi : i < l.length) {k : Nat} (hk : (bB l i).testBit k = true) {q : Nat} (hq : q < 5) : V l k q + (if prc l i = q then 1 else 0) ≤ V l i q := by
  induction i using Nat.strongRecOn with
  | _ i ih =>
    obtain ⟨a, b, hS, _, _, hall⟩ := vec_rec hp hf hi
    obtain ⟨j, hj, hkj⟩ := (bB_bit hp hf hi k).1 hk
    have hji := hj.1
    have h1 : V l j q + (if prc l i = q then 1 else 0) ≤ V l i q := by
      rw [hS q hq]
      rcases hall j hj with h | h <;> rw [h] <;> omega
    rcases hkj with h | h
    · have := ih j hji (by omega) h
      split at this <;> omega
    · rw [h]; exact h1
/-- B: what one knows of a process comes from an event there. -/
theorem V_from {l : List Ev} (hp : ∀ i, i < l.length → prc l i < 5) (hf : ∀ i, i < l.length → frm l i < (i : Int)) {i : Nat} (hi : i < l.length) {q : Nat} (hq : q < 5) :
    V l i q = 0 ∨ ∃ k, k < l.length ∧ prc l k = q ∧ (k = i ∨ (bB l i).testBit k = true) ∧ V l k q = V l i q := by
  induction i using Nat.strongRecOn with
  | _ i ih =>
    obtain ⟨a, b, hS, ha, hb, _⟩ := vec_rec hp hf hi
    by_cases hpq : prc l i = q
    · exact .inr ⟨i, hi, hpq, .inl rfl, rfl⟩
    · have e := hS q hq
      rw [if_neg hpq] at e
      have one : ∀ c : Nat → Int, (c = (fun _ => 0) ∨ ∃ j, justB l i j ∧ c = V l j) → c q = V l i q → V l i q = 0 ∨ ∃ k, k < l.length ∧ prc l k = q ∧ (k = i ∨ (bB l i).testBit k = true) ∧ V l k q = V l i q := by
        intro c hc hq'
        rcases hc with rfl | ⟨j, hj, rfl⟩
        · exact .inl hq'.symm
        · have hji := hj.1
          rcases ih j hji (by omega) with h | ⟨k, h1, h2, h3, h4⟩
          · exact .inl (by omega)
          · exact .inr ⟨k, h1, h2, .inr ((bB_bit hp hf hi k).2 ⟨j, hj, h3.symm⟩), by omega⟩
      by_cases hab : a q ≤ b q
      · exact one b hb (by omega)
      · exact one a ha (by omega)
theorem V_own {l : List Ev} (hp : ∀ i, i < l.length → prc l i < 5) (hf : ∀ i, i < l.length → frm l i < (i : Int)) {i : Nat} (hi : i < l.length) : 1 ≤ V l i (prc l i) := by
  obtain ⟨a, b, hS, ha, hb, _⟩ := vec_rec hp hf hi
  have e := hS _ (hp i hi)
  rw [if_pos rfl] at e
  have h0 : 0 ≤ a (prc l i) := by
    rcases ha with rfl | ⟨j, hj, rfl⟩
    · exact Int.le_refl 0
    · have := hj.1
      exact V_nonneg hp hf (by omega) _
  omega
/-- One knows of as many of the other one's process just if it is that one, or that one is before it. -/
theorem V_iff {l : List Ev} (hp : ∀ i, i < l.length → prc l i < 5) (hf : ∀ i, i < l.length → frm l i < (i : Int)) {i j : Nat} (hi : i < l.length) (hj : j < l.length) :
    V l i (prc l i) ≤ V l j (prc l i) ↔ (i = j ∨ (bB l j).testBit i = true) := by
  constructor
  · intro h
    have h1 := V_own hp hf hi
    rcases V_from hp hf hj (hp i hi) with h0 | ⟨k, hk, hkp, hkj, hV⟩
    · omega
    · have hik : ¬ k < i := by
        intro hlt
        have := V_mono hp hf hi (bB_must hp hf hi hlt (.inl hkp)) (hp i hi)
        rw [if_pos rfl] at this
        omega
      by_cases he : i = k
      · rw [he]
        rcases hkj with h | h
        · exact .inl h
        · exact .inr h
      · have hb := bB_must hp hf hk (j := i) (by omega) (.inl hkp.symm)
        rcases hkj with h | h
        · right; rw [← h]; exact hb
        · right; exact bB_trans hp hf hj h hb
  · rintro (rfl | h)
    · exact Int.le_refl _
    · have := V_mono hp hf hj h (hp i hi)
      split at this <;> omega
end Go.Proofs.YtbpoeigaoakdiaaDoor

/- Clocks that count, and the row: the document's answers. -/
namespace Go.Proofs.YtbpoeigaoakdiaaDoor.H
open Go.Vc
def Ey : Env := { tys := [(3, I), (4, .bool), (5, .int .u8), (9, .str), (22, .sl tEv), (24, tTr), (30, .sl I), (28, tErr), (70, tEv), (61, .sl (.sl I)), (74, .ar 5 I)], errT := 71, eqs := [], els := [(22, 70), (30, 3), (61, 30)] }
theorem Ey_ok : EnvOk Tryd.prog Ey := EnvOk.of_list (by kernel_rfl) (by kernel_rfl) (by kernel_rfl)
/-- plain clocks: the greatest of those before -/
def nU (l : List Ev) (i : Nat) : Nat → Int
  | 0 => 0
  | j + 1 => if (bB l i).testBit j = true ∧ nU l i j < pl l j then pl l j else nU l i j
def pls (l : List Ev) (i : Nat) : List Int := (List.range i).map (pl l)
def cRPlain : Ctr := cdet [tTr] (fun t => chk t = 0 ∧ True) (fun t => [⟨.sl I, plain t⟩])
def anRPlain (t : Tr) : Ann := [joinAll,
  loopAt 4 Nat [(4, 3, I)] (fun st i => { St.at (St.only st [1, 3, 4]) [(5, .d I (i : Int))] with ob := [.var 24 tTr t, .row 3 I (pls t.2.1 i)] }) (fun _ i => i ≤ t.2.1.length ∧ True) (fun i => t.2.1.length - i),
  loopAt 8 Nat [] (fun st j => St.at (St.only st [1, 3, 4, 5]) [(6, .d I (nU t.2.1 (st.i 5).toNat j)), (7, .d I (j : Int))]) (fun st j => j ≤ (st.i 5).toNat ∧ True) (fun j => t.2.1.length - j)]
/-- vectors: counted -/
def cntU (l : List Ev) (i q : Nat) : Nat → Int
  | 0 => 0
  | j + 1 => if (i = j ∨ (bB l i).testBit j = true) ∧ prc l j = q then cntU l i q j + 1 else cntU l i q j
def cntR (t : Tr) (i j : Nat) : List Int := (List.range t.1.toNat).map fun q => cntU t.2.1 i q j
def vls (t : Tr) (i : Nat) : List (List Int) := (List.range i).map fun j => (vec t.2.1 j).take t.1.toNat
def cRVecs : Ctr := cdet [tTr] (fun t => chk t = 0 ∧ True) (fun t => [⟨.sl (.sl I), vecs t⟩])
def anRVecs (t : Tr) : Ann := [joinAll, freezeAt 12 [6],
  loopAt 4 Nat [(4, 30, Ty.sl I)] (fun st i => { St.at (St.only st [1, 3, 4]) [(5, .d I (i : Int))] with ob := [.var 24 tTr t, .row 30 (.sl I) (vls t i)] }) (fun _ i => i ≤ t.2.1.length ∧ True) (fun i => t.2.1.length - i),
  loopAt 8 Nat [] (fun st j => { St.at (St.only st [1, 3, 4, 5, 6]) [(7, .d I (j : Int))] with ob := [.var 24 tTr t, .row 30 (.sl I) (vls t (st.i 5).toNat), .row 3 I (cntR t (st.i 5).toNat j)] }) (fun st j => j ≤ (st.i 5).toNat + 1 ∧ True) (fun j => t.2.1.length + 1 - j)]
/-- the row: by clock, and then by process -/
def rC (t : Tr) (n p : Int) : Nat → List Int
  | 0 => []
  | i + 1 => rC t n p i ++ (if (plain t).getD i 0 = n ∧ (evA t.2.1 i).1 = p then [(i : Int)] else [])
def rB (t : Tr) (n : Int) : Nat → List Int
  | 0 => []
  | p + 1 => rB t n p ++ rC t n (p : Int) t.2.1.length
def rA (t : Tr) : Nat → List Int
  | 0 => []
  | n + 1 => rA t n ++ rB t ((n : Int) + 1) t.1.toNat
def rrow (t : Tr) : List Int := if chk t = 0 then rA t t.2.1.length else []
def cRRow : Ctr := cdet [tTr] (fun t => chk t = 0 ∧ True) (fun t => [⟨.sl I, rrow t⟩])
/-- a number and one -/
def nx (n : Nat) : Int := (n : Int) + 1
def anRRow (t : Tr) : Ann := [joinAll,
  loopAt 4 Nat [(4, 3, I)] (fun st n => { St.at (St.only st [1, 3, 4]) [(5, .d I (nx n))] with ob := [.var 24 tTr t, .row 3 I (rA t n)] }) (fun _ n => n ≤ t.2.1.length ∧ True) (fun n => t.2.1.length - n),
  loopAt 7 Nat [] (fun st p => { St.at (St.only st [1, 3, 4, 5]) [(6, .d I (p : Int))] with ob := [.var 24 tTr t, .row 3 I (rA t (st.i 5 - 1).toNat ++ rB t (st.i 5) p)] }) (fun _ p => p ≤ t.1.toNat ∧ True) (fun p => t.1.toNat - p),
  loopAt 10 Nat [] (fun st i => { St.at (St.only st [1, 3, 4, 5, 6]) [(7, .d I (i : Int))] with ob := [.var 24 tTr t, .row 3 I (rA t (st.i 5 - 1).toNat ++ rB t (st.i 5) (st.i 6).toNat ++ rC t (st.i 5) (st.i 6) i)] }) (fun _ i => i ≤ t.2.1.length ∧ True) (fun i => t.2.1.length - i)]
def blE (v w : List Int) : Int := if v.length = w.length then 0 else 3
def leU (v w : List Int) (i : Nat) : Bool := (List.range i).all fun j => decide (v.getD j 0 ≤ w.getD j 0)
def blB (v w : List Int) : Bool := decide (v.length = w.length) && (!(v == w) && leU v w v.length)
def cEq : Ctr := cdet [.sl I, .sl I] (fun _ _ => True) (fun (v w : List Int) => [⟨.bool, v == w⟩])
def anEq (v w : List Int) : Ann := [loopAt 4 Nat [] (fun st i => St.at (St.only st [0, 1, 12]) [(13, .d I (i : Int))]) (fun _ i => i ≤ v.length ∧ v.take i = w.take i) (fun i => v.length - i)]
def cBelow : Ctr := cdet [.sl I, .sl I] (fun _ _ => True) (fun (v w : List Int) => [⟨.bool, blB v w⟩, ⟨tErr, blE v w⟩])
def anBelow (v w : List Int) : Ann := [joinAll, loopAt 4 Nat [] (fun st i => St.at (St.only st [0, 1, 14]) [(15, .d I (i : Int))]) (fun _ i => i ≤ v.length ∧ leU v w i = true) (fun i => v.length - i)]
def cLawS : Ctr := cdet [tTr, .sl I, .sl I] (fun _ _ _ => True) (fun _ _ _ => [⟨.bool, true⟩])
def anLawS (t : Tr) (v w : List Int) : Ann := [joinAll,
  meetAt 8 Unit [] (fun st _ => St.at (St.only st [1, 2, 3]) [(7, .d I (chk t)), (8, .d (.sl I) (plain t)), (9, .d (.sl I) (rrow t)), (10, .d (.sl (.sl I)) (vecs t))]) (fun _ _ => True ∧ True),
  meetAt 14 Unit [] (fun st _ => St.at (St.only st [1, 2]) [(13, .d .bool true), (15, .d .bool true), (16, .d .bool true)]) (fun _ _ => True ∧ True),
  loopAt 20 Nat [] (fun st i => St.at (St.only st [1, 2, 7, 13, 15, 16]) [(17, .d .bool (!(v == w) && leU v w i)), (18, .d I (i : Int))]) (fun _ i => i ≤ v.length ∧ v.length = w.length) (fun i => v.length - i),
  meetAt 23 Unit [] (fun st _ => St.at (St.only st [1, 2, 13, 15, 16]) [(7, .d I (blE v w)), (17, .d .bool (blB v w))]) (fun _ _ => True ∧ True)]
end Go.Proofs.YtbpoeigaoakdiaaDoor.H

/- Cuts: the document's answers; the laws. -/
namespace Go.Proofs.YtbpoeigaoakdiaaDoor.H
open Go.Vc
/-- is an event in a cut? -/
def inC (t : Tr) (c : List Int) (m : Nat) : Bool := decide ((nth t.2.1 m : Int) < c.getD (evA t.2.1 m).1.toNat 0)
def setI (t : Tr) (c : List Int) : Nat → Int
  | 0 => 0
  | m + 1 => if inC t c m = true then setI t c m + (2 : Int) ^ m else setI t c m
def cRSet : Ctr := cdet [tTr, .sl I] (fun t c => cutE t c = 0 ∧ True) (fun t c => [⟨I, (setN t c : Int)⟩])
def anRSet (t : Tr) (c : List Int) : Ann := [joinAll, loopAt 3 Nat [] (fun st i => St.at (St.only st [1, 2]) [(5, .d I (setI t c i)), (6, .d I (i : Int))]) (fun _ i => i ≤ t.2.1.length ∧ True) (fun i => t.2.1.length - i)]
/-- of what an event of a cut heard, is that in it? -/
def fromB (t : Tr) (s : Int) (m : Nat) : Bool := !bitB s (m : Int) || (decide ((evA t.2.1 m).2.1 < 0) || bitB s (evA t.2.1 m).2.1)
def cRWhole : Ctr := cdet [tTr, .sl I] (fun t c => cutE t c = 0 ∧ True) (fun t c => [⟨.bool, wholeB t c⟩])
def anRWhole (t : Tr) (c : List Int) : Ann := [joinAll, loopAt 3 Nat [] (fun st i => St.at (St.only st [2, 5]) [(6, .d I (i : Int))]) (fun _ i => i ≤ t.2.1.length ∧ ∀ m, m < i → fromB t (setN t c : Int) m = true) (fun i => t.2.1.length - i)]
def cut0 (t : Tr) (c : List Int) : Int := if chk t = 0 ∧ (c.length : Int) ≠ t.1 then 3 else chk t
def cRCut : Ctr := cdet [tTr, .sl I] (fun _ _ => True) (fun t c => [⟨I, cutE t c⟩])
def anRCut (t : Tr) (c : List Int) : Ann := [joinAll,
  meetAt 4 Int [] (fun st e => St.at (St.only st [1, 2]) [(5, .d I e)]) (fun _ e => e = cut0 t c ∧ True),
  loopAt 5 (Nat × Int) [] (fun st g => St.at (St.only st [1, 2]) [(5, .d I g.2), (6, .d I (g.1 : Int))])
    (fun _ g => g.1 ≤ c.length ∧ (g.2 = 0 → cut0 t c = 0 ∧ ∀ p, p < g.1 → inB (c.getD p 0) 0 (lenT t p : Int) = true) ∧ (g.2 ≠ 0 → cutE t c = g.2)) (fun g => c.length - g.1)]
/-- is an event in the line in a cut? -/
def lnB (t : Tr) (c : List Int) (m : Nat) : Bool := bitB (setN t c : Int) (m : Int) && subB ((ints (befN t)).getD m 0) (setN t c : Int)
def lnU (t : Tr) (c : List Int) (p : Nat) : Nat → Int
  | 0 => 0
  | m + 1 => if lnB t c m = true ∧ prc t.2.1 m = p then lnU t c p m + 1 else lnU t c p m
def lnR (t : Tr) (c : List Int) (m : Nat) : List Int := (List.range t.1.toNat).map fun p => lnU t c p m
def lineR (t : Tr) (c : List Int) : List Int := lnR t c t.2.1.length
def cRLine : Ctr := cdet [tTr, .sl I] (fun t c => cutE t c = 0 ∧ True) (fun t c => [⟨.sl I, lineR t c⟩])
def anRLine (t : Tr) (c : List Int) : Ann := [joinAll, loopAt 5 Nat [] (fun st i => { St.at (St.only st [2, 5, 6, 7]) [(8, .d I (i : Int))] with ob := [.var 24 tTr t, .row 3 I (lnR t c i)] }) (fun _ i => i ≤ t.2.1.length ∧ True) (fun i => t.2.1.length - i)]
/-- how many whole cuts go on from one -/
def cRCuts (d : Nat) : Ctr := cdet [tTr, .sl I] (fun t c => chk t = 0 ∧ (c.length ≤ t.1.toNat ∧ t.1.toNat < c.length + d) ∧ ∀ p, p < c.length → 0 ≤ c.getD p 0 ∧ c.getD p 0 ≤ (lenT t p : Int)) (fun t c => [⟨I, (cutsN t (t.1.toNat - c.length) c : Int)⟩])
def cutsU (t : Tr) (c : List Int) (d : Nat) (k : Nat) : Nat := ((List.range k).map fun j => cutsN t d (c ++ [((j : Nat) : Int)])).sum
def anRCuts (t : Tr) (c : List Int) : Ann := [joinAll, loopAt 8 Nat [] (fun st k => St.at (St.only st [1, 2, 5]) [(6, .d I (cutsU t c (t.1.toNat - c.length - 1) k : Int)), (7, .d I (k : Int))]) (fun _ k => k ≤ lenT t c.length + 1 ∧ c.length < t.1.toNat) (fun k => lenT t c.length + 1 - k)]
def prodU (t : Tr) : Nat → Nat
  | 0 => 1
  | p + 1 => prodU t p * (lenT t p + 1)
def cLawC : Ctr := cdet [tTr] (fun _ => True) (fun _ => [⟨.bool, true⟩])
def anLawC (t : Tr) : Ann := [joinAll, loopAt 9 Nat [] (fun st p => St.at (St.only st [1, 4]) [(6, .d I (prodU t p : Int)), (7, .d I (p : Int))]) (fun _ p => p ≤ t.1.toNat ∧ chk t = 0) (fun p => 5 - p)]
def cLawX : Ctr := cdet [tTr, .sl I] (fun _ _ => True) (fun _ _ => [⟨.bool, true⟩])
def lineQ (t : Tr) (c : List Int) : List Int := if cutE t c = 0 then lineR t c else []
def anLawX (t : Tr) (c : List Int) : Ann := [joinAll,
  meetAt 5 Unit [] (fun st _ => St.at (St.only st [1, 2]) [(5, .d I (chk t)), (6, .d I (if chk t = 0 then (countW t : Int) else 0))]) (fun _ _ => True ∧ True),
  meetAt 7 Unit [] (fun st _ => St.at (St.only st [1, 2]) [(9, .d .bool true)]) (fun _ _ => True ∧ True),
  meetAt 15 Unit [] (fun st _ => St.at (St.only st [1, 2, 9]) [(5, .d I (cutE t c)), (10, .d I (setE t c)), (11, .d (.sl I) (lineQ t c)), (12, .d .bool (if cutE t c = 0 then wholeB t c else false))]) (fun _ _ => True ∧ True),
  meetAt 19 Unit [] (fun st _ => St.at (St.only st [1, 2, 5, 9, 11]) [(13, .d .bool true), (15, .d .bool true)]) (fun _ _ => True ∧ True)]
end Go.Proofs.YtbpoeigaoakdiaaDoor.H

/- Clocks that count: rows alike; the closed fact. -/
namespace Go.Proofs.YtbpoeigaoakdiaaDoor
open Go.Vc

theorem take_nextL {a b : List (List Int)} {x : Nat} (ha : x < a.length) (hb : x < b.length) (h : a.take x = b.take x) (e : a.getD x [] = b.getD x []) : a.take (x + 1) = b.take (x + 1) := by
  rw [List.take_add_one, List.take_add_one, h]
  rw [List.getD_eq_getElem?_getD, List.getD_eq_getElem?_getD, List.getElem?_eq_getElem ha, List.getElem?_eq_getElem hb] at e
  rw [List.getElem?_eq_getElem ha, List.getElem?_eq_getElem hb]
  simp only [Option.getD_some] at e
  rw [e]
theorem rows_vc (a b : List (List Int)) (k : List Dat → Prop) (hl : a.length ≤ maxLen) (hk : k [⟨.bool, a == b⟩]) : vcF ⟨Ev5, [(14, cInts)], [], [], []⟩ (anRows a b) (Tryd.f39.body.getD .skip) Tryd.f39.ntmps [(.tmp 4, .bool)] [⟨.sl (.sl I), a⟩, ⟨.sl (.sl I), b⟩] k := by
  rw [vcRows]
  have hml : maxLen ≤ 9223372036854775807 := by decide
  simp only [decide_eq_true_eq, decide_eq_false_iff_not, and_true, true_and, Bool.not_eq_true', Bool.not_eq_false', Int.toNat_natCast, inK_i64, eq_self]
  have ret : ∀ x : Bool, (a == b) = x → k [⟨.bool, x⟩] := by rintro _ rfl; exact hk
  refine ⟨fun h => ret _ ?_, fun h => ⟨⟨0, ⟨by omega, rfl⟩, rfl⟩, fun x ⟨hx, ht⟩ => ⟨fun hlt => ⟨by omega, hlt, by omega, by omega, fun hne => ret _ ?_, fun he => ⟨by omega, x + 1, ⟨by omega, take_nextL (by omega) (by omega) ht (by simpa using he)⟩, by omega, by omega⟩⟩, fun hge => ret _ ?_⟩⟩⟩
  · rw [beq_eq_false_iff_ne]; intro he; exact h (by rw [he])
  · rw [beq_eq_false_iff_ne]; intro he; rw [he] at hne; simp at hne
  · have h1 : x = a.length := by omega
    rw [h1, List.take_length, List.take_of_length_le (by omega)] at ht
    rw [ht]; exact beq_self_eq_true b
theorem okRows : PlainOk Tryd.prog [] 39 cRows := by
  refine plain_of (CxOk.mk' Ev5_ok (by kernel_rfl) mixed (gl := []) (GOk.cons okInts Tryd.func14 (by kernel_rfl) (by kernel_rfl) GOk.nil) GoOk.nil noIt) Tryd.func39 (c := Tryd.f39.body.getD .skip) (rvs := [(.tmp 4, .bool)]) (by kernel_rfl) (by kernel_rfl) (by kernel_rfl) ?_
  intro ds k ⟨hp, hk⟩ hwf
  obtain ⟨a, b, rfl, -⟩ := dest2 hp
  exact ⟨anRows a b, rows_vc a b k (wf2 hwf).1.1 hk⟩

theorem plain_len {t : Tr} (h : chk t = 0) : (plain t).length = t.2.1.length := by
  unfold plain; rw [if_pos h]; exact (plst_len _ _).1
theorem plain_at {t : Tr} (h : chk t = 0) {i : Nat} (hi : i < t.2.1.length) : (plain t).getD i 0 = pl t.2.1 i := by
  unfold plain; rw [if_pos h]; exact pl_keep _ hi

end Go.Proofs.YtbpoeigaoakdiaaDoor

/- Clocks that count: the document's answers are the program's: the facts. -/
namespace Go.Proofs.YtbpoeigaoakdiaaDoor.H
open Go.Vc
/-! Plain clocks. -/
theorem nU_spec (l : List Ev) (i : Nat) : ∀ j, 0 ≤ nU l i j ∧ (∀ m, m < j → (bB l i).testBit m = true → pl l m ≤ nU l i j) ∧ (nU l i j = 0 ∨ ∃ m, m < j ∧ (bB l i).testBit m = true ∧ nU l i j = pl l m)
  | 0 => ⟨Int.le_refl _, fun m hm => absurd hm (Nat.not_lt_zero _), .inl rfl⟩
  | j + 1 => by
    obtain ⟨h1, h2, h3⟩ := nU_spec l i j
    have hj := pl_pos l j
    unfold nU
    by_cases h : (bB l i).testBit j = true ∧ nU l i j < pl l j
    · rw [if_pos h]
      refine ⟨by omega, fun m hm hb => ?_, .inr ⟨j, by omega, h.1, rfl⟩⟩
      by_cases hmj : m = j
      · subst hmj; exact Int.le_refl _
      · have := h2 m (by omega) hb
        omega
    · rw [if_neg h]
      refine ⟨h1, fun m hm hb => ?_, ?_⟩
      · by_cases hmj : m = j
        · subst hmj
          exact Int.not_lt.1 fun e => h ⟨hb, e⟩
        · exact h2 m (by omega) hb
      · rcases h3 with h3 | ⟨m, h4, h5, h6⟩
        · exact .inl h3
        · exact .inr ⟨m, by omega, h5, h6⟩
theorem nU_eq {l : List Ev} (g : Gd l) {i : Nat} (hi : i < l.length) : nU l i i + 1 = pl l i := by
  obtain ⟨h1, h2, h3⟩ := nU_spec l i i
  have ha : nU l i i + 1 ≤ pl l i := by
    rcases h3 with h3 | ⟨m, h4, h5, h6⟩
    · have := pl_pos l i; omega
    · have := pl_less g.p g.f hi h5; omega
  rcases pl_near g.p g.f hi with ⟨k, hk, e⟩ | ⟨e, _⟩
  · have := h2 k (bB_less g.p g.f hi hk) hk
    omega
  · omega
theorem pls_len (l : List Ev) (i : Nat) : (pls l i).length = i := by simp [pls]
theorem pls_at {l : List Ev} {i j : Nat} (h : j < i) : (pls l i).getD j 0 = pl l j := by
  unfold pls
  rw [List.getD_eq_getElem?_getD, List.getElem?_map, List.getElem?_range h]; rfl
theorem pls_succ (l : List Ev) (i : Nat) : pls l (i + 1) = pls l i ++ [pl l i] := by unfold pls; rw [List.range_succ, List.map_append]; rfl
theorem pls_all {t : Tr} (h : chk t = 0) : pls t.2.1 t.2.1.length = plain t := by
  refine List.ext_getElem (by rw [pls_len, plain_len h]) fun i h1 h2 => ?_
  have hi : i < t.2.1.length := by rw [pls_len] at h1; exact h1
  have a := pls_at (l := t.2.1) hi
  have b := plain_at h hi
  rw [List.getD_eq_getElem?_getD, List.getElem?_eq_getElem h1] at a
  rw [List.getD_eq_getElem?_getD, List.getElem?_eq_getElem h2] at b
  exact a.trans b.symm

/-! Vectors. -/
theorem cntP_last (l : List Ev) (q : Nat) : ∀ i, cntP l q i = 0 ∨ ∃ j, j < i ∧ prc l j = q ∧ cntP l q i = cntP l q j + 1
  | 0 => .inl rfl
  | i + 1 => by
    by_cases h : prc l i = q
    · exact .inr ⟨i, by omega, h, by simp only [cntP]; rw [if_pos h]⟩
    · have e : cntP l q (i + 1) = cntP l q i := by simp only [cntP]; rw [if_neg h]
      rcases cntP_last l q i with h1 | ⟨j, h1, h2, h3⟩
      · exact .inl (e.trans h1)
      · exact .inr ⟨j, by omega, h2, e.trans h3⟩
theorem cntP_step {l : List Ev} {q j : Nat} (h : prc l j = q) : cntP l q (j + 1) = cntP l q j + 1 := by simp only [cntP]; rw [if_pos h]
theorem V_rank {l : List Ev} (g : Gd l) {i : Nat} (hi : i < l.length) : V l i (prc l i) = (cntP l (prc l i) i : Int) + 1 := by
  induction i using Nat.strongRecOn with
  | _ i ih =>
    obtain ⟨a, b, hS, ha, hb, _⟩ := vec_rec g.p g.f hi
    have e := hS _ (g.p i hi)
    rw [if_pos rfl] at e
    have up : ∀ j, justB l i j → V l j (prc l i) ≤ (cntP l (prc l i) i : Int) := by
      intro j hj
      have hji := hj.1
      rcases V_from g.p g.f (i := j) (by omega) (g.p i hi) with h | ⟨k, hk, hkp, hkj, hV⟩
      · rw [h]; omega
      · have hki : k < i := by
          rcases hkj with rfl | h
          · exact hji
          · have := bB_less g.p g.f (i := j) (by omega) h; omega
        have e1 := ih k hki hk
        rw [hkp] at e1
        have e2 := cntP_mono l (prc l i) (i := k + 1) (j := i) (by omega)
        rw [cntP_step hkp] at e2
        omega
    have hle : V l i (prc l i) ≤ (cntP l (prc l i) i : Int) + 1 := by
      rcases ha with rfl | ⟨j, hj, rfl⟩ <;> rcases hb with rfl | ⟨j', hj', rfl⟩
      · simp only [] at e; omega
      · have := up j' hj'; simp only [] at e; omega
      · have := up j hj; simp only [] at e; omega
      · have := up j hj; have := up j' hj'; omega
    have hge : (cntP l (prc l i) i : Int) + 1 ≤ V l i (prc l i) := by
      rcases cntP_last l (prc l i) i with h | ⟨j, hj, hjp, h⟩
      · have := V_own g.p g.f hi; omega
      · have hb := bB_must g.p g.f hi hj (.inl hjp)
        have h1 := V_mono g.p g.f hi hb (g.p i hi)
        rw [if_pos rfl] at h1
        have h2 := ih j hj (by omega)
        rw [hjp] at h2
        omega
    omega
theorem cntU_min {l : List Ev} (g : Gd l) {i q : Nat} (hi : i < l.length) : ∀ j, j ≤ i + 1 → cntU l i q j = min (cntP l q j : Int) (V l i q)
  | 0, _ => by
    have := V_nonneg g.p g.f hi q
    show (0 : Int) = min ((0 : Nat) : Int) _
    omega
  | j + 1, hj => by
    have ih := cntU_min g hi (q := q) j (by omega)
    unfold cntU
    by_cases hq : prc l j = q
    · have h1 := V_rank g (i := j) (by omega)
      have h2 := V_iff g.p g.f (i := j) (j := i) (by omega) hi
      rw [hq] at h1 h2
      rw [cntP_step hq]
      by_cases hb : i = j ∨ (bB l i).testBit j = true
      · rw [if_pos ⟨hb, hq⟩, ih]
        have h3 := h2.2 (hb.imp (fun e => e.symm) id)
        omega
      · rw [if_neg (fun e => hb e.1), ih]
        have h3 : ¬ V l j q ≤ V l i q := fun e => hb ((h2.1 e).imp (fun e => e.symm) id)
        omega
    · rw [if_neg (fun e => hq e.2), ih]
      have : cntP l q (j + 1) = cntP l q j := by simp only [cntP]; rw [if_neg hq]
      rw [this]
theorem cntU_eq {l : List Ev} (g : Gd l) {i q : Nat} (hi : i < l.length) (hq : q < 5) : cntU l i q (i + 1) = V l i q := by
  rw [cntU_min g hi _ (Nat.le_refl _)]
  rcases V_from g.p g.f hi hq with h | ⟨k, hk, hkp, hki, hV⟩
  · omega
  · have hki' : k ≤ i := by
      rcases hki with rfl | h
      · exact Nat.le_refl _
      · have := bB_less g.p g.f hi h; omega
    have h1 := V_rank g hk
    rw [hkp] at h1
    have h2 := cntP_mono l q (i := k + 1) (j := i + 1) (by omega)
    rw [cntP_step hkp] at h2
    omega
theorem cntR_len (t : Tr) (i j : Nat) : (cntR t i j).length = t.1.toNat := by simp [cntR]
theorem cntR_at {t : Tr} {i j q : Nat} (h : q < t.1.toNat) : (cntR t i j).getD q 0 = cntU t.2.1 i q j := by
  unfold cntR
  rw [List.getD_eq_getElem?_getD, List.getElem?_map, List.getElem?_range h]; rfl
theorem cntR_in {t : Tr} {i j : Nat} (hb : i = j ∨ (bB t.2.1 i).testBit j = true) (hp : prc t.2.1 j < t.1.toNat) : (cntR t i j).set (prc t.2.1 j) ((cntR t i j).getD (prc t.2.1 j) 0 + 1) = cntR t i (j + 1) := by
  rw [cntR_at hp]
  refine List.ext_getElem (by simp [cntR]) fun q h1 h2 => ?_
  simp only [cntR, List.getElem_set, List.getElem_map, List.getElem_range, cntU]
  by_cases h : prc t.2.1 j = q
  · subst h; rw [if_pos rfl, if_pos ⟨hb, rfl⟩]
  · rw [if_neg h, if_neg (fun e => h e.2)]
theorem cntR_out {t : Tr} {i j : Nat} (hb : ¬ (i = j ∨ (bB t.2.1 i).testBit j = true)) : cntR t i j = cntR t i (j + 1) := by
  unfold cntR
  refine List.map_congr_left fun q _ => ?_
  rw [cntU, if_neg (fun e => hb e.1)]
theorem cntR_zero (t : Tr) (i : Nat) : cntR t i 0 = List.replicate t.1.toNat 0 := by
  unfold cntR cntU
  refine List.ext_getElem (by simp) fun q h1 h2 => by simp
theorem vec_len {l : List Ev} (g : Gd l) {i : Nat} (hi : i < l.length) : (vec l i).length = 5 := ((vst_ok l g.p g.f (i + 1) (by omega)).1 i (by omega)).1
theorem cntR_all {t : Tr} (h : chk t = 0) {i : Nat} (hi : i < t.2.1.length) : cntR t i (i + 1) = (vec t.2.1 i).take t.1.toNat := by
  have g := gd_of h
  have hpr := (good_of h).procs
  have hl := vec_len g hi
  refine List.ext_getElem (by rw [cntR_len, List.length_take, hl]; omega) fun q h1 h2 => ?_
  rw [cntR_len] at h1
  have a := cntR_at (t := t) (i := i) (j := i + 1) h1
  rw [cntU_eq g hi (by omega)] at a
  rw [List.getD_eq_getElem?_getD, List.getElem?_eq_getElem (by rw [cntR_len]; exact h1)] at a
  refine Eq.trans a ?_
  unfold V
  rw [List.getD_eq_getElem?_getD, List.getElem?_eq_getElem (by rw [hl]; omega), List.getElem_take]
  rfl
theorem vls_len (t : Tr) (i : Nat) : (vls t i).length = i := by simp [vls]
theorem vls_succ (t : Tr) (i : Nat) : vls t (i + 1) = vls t i ++ [(vec t.2.1 i).take t.1.toNat] := by unfold vls; rw [List.range_succ, List.map_append]; rfl
theorem vls_all {t : Tr} (h : chk t = 0) : vls t t.2.1.length = vecs t := by
  unfold vecs vls
  rw [if_pos h]
  refine List.ext_getElem (by simp [(vst_len t.2.1 t.2.1.length).1]) fun i h1 h2 => ?_
  have hi : i < t.2.1.length := by simpa using h1
  have := vec_keep t.2.1 hi
  rw [List.getD_eq_getElem?_getD, List.getElem?_eq_getElem (by rw [(vst_len t.2.1 t.2.1.length).1]; exact hi)] at this
  rw [List.getElem_map, List.getElem_map, List.getElem_range, ← this]
  rfl

theorem bef_bit {t : Tr} {i j : Nat} (hi : i < t.2.1.length) : bitB ((ints (befN t)).getD i 0) (j : Int) = (bB t.2.1 i).testBit j := by
  rw [bef_at hi, bitB_nat]
theorem bef_lenI (t : Tr) : (ints (befN t)).length = t.2.1.length := by unfold ints befN; rw [List.length_map, (bst_len t.2.1 t.2.1.length).1]
end Go.Proofs.YtbpoeigaoakdiaaDoor.H
