/- Own texts, merged: Tz, Bt, Def, Def2, Def3, Def4, Def5, Pp, Def6, GDef, V, Ok, V2, Ok2, V3, Ok3, V4, Ok4, GM, GV, GOk, GV2, GOk2. -/
import Derived.Test.YtlopkkoenfngiaaDoorChecked
import Derived.Shelf.Spec.TrailingZeros
import Derived.RangeFuncNested
import Derived.RangeFuncBound
import Derived.RangeFuncCalls
import Derived.RangeFuncLeaves
import Derived.Shelf.Abstract
import Derived.Shelf.RegionOpen
import Derived.WalkKit
import Derived.OwnWalkIn
import Derived.TacticsInMore
import Derived.LoopNIn
import Derived.LoopIn
import Derived.Test.YtlopkkoenfngiaaDoorVcQ
import Derived.Test.YtlopkkoenfngiaaDoorRows
import Derived.Test.YtlopkkoenfngiaaDoorVcNB
/- How many zeros a number ends with: the library's function, walked; the iterator over the things of a set. -/
namespace Go.Proofs.YtlopkkoenfngiaaDoor
open Go.RowKit Go.Shelf
attribute [local go_sem] Oper.semAt_some

set_option maxHeartbeats 1000000 in
theorem tz64_core (x k idx : Nat) (w : World) (hx0 : ((x : Int) == 0) = false)
    (key : IntKind.u64.wrap (bits BinOp.and IntKind.u64 (x : Int) (IntKind.u64.wrap (-(x : Int))) * 285870213051353865) / 288230376151711744 = (idx : Int))
    (hi : idx < 64) (hk : k < 64) (hcell : w.cell? ⟨2, idx, none⟩ = some (.int .u8 k)) :
    Calls Tryd.prog 63 #[.int .u64 x] w fun e w' => e = .returned (.int .i64 k) ∧ w' = w := by
  go_enter Tryd.func63, Tryd.ntmps63
  go_wp2_with (simp only [key])
  go_ret
  exact ⟨rfl, rfl⟩

theorem tz64_zero (w : World) : Calls Tryd.prog 63 #[.int .u64 0] w fun e w' => e = .returned (.int .i64 64) ∧ w' = w := by
  go_enter Tryd.func63, Tryd.ntmps63
  go_wp2
  go_ret
  exact ⟨rfl, rfl⟩

theorem tz64 (x : Nat) (hx : x < 18446744073709551616) (w : World) (hT : x ≠ 0 → TabAt 2 Lib.deBruijn64tab w) :
    Calls Tryd.prog 63 #[.int .u64 x] w fun e w' => e = .returned (.int .i64 (Lib.ctz 64 x)) ∧ w' = w := by
  by_cases hx0 : x = 0
  · subst hx0
    exact tz64_zero w
  · obtain ⟨hlow, hk⟩ := Lib.lowest_bit 64 x hx0 hx
    obtain ⟨hi, htab⟩ := Lib.deBruijn64_at _ hk
    have hcell := hT hx0 _ hi
    rw [htab] at hcell
    exact tz64_core x _ _ w (by simp; omega) (tz64_key x _ hx hx0 hlow) hi hk hcell

theorem tz (x : Nat) (hx : x < 18446744073709551616) (w : World) (hT : x ≠ 0 → TabAt 2 Lib.deBruijn64tab w) :
    Calls Tryd.prog 55 #[.int .u64 x] w fun e w' => e = .returned (.int .i64 (Lib.ctz 64 x)) ∧ w' = w := by
  go_enter Tryd.func55, Tryd.ntmps55
  go_wp2_with (go_at_call 63; refine (tz64 x hx _ hT).mono ?_; rintro e w' ⟨rfl, rfl⟩)
  go_ret
  exact ⟨rfl, rfl⟩
end Go.Proofs.YtlopkkoenfngiaaDoor

/- The iterator over the things of a set hands on the places of its bits, rising. -/
namespace Go.Proofs.YtlopkkoenfngiaaDoor
open Go.RowKit Go.Shelf Go.Vc
attribute [local go_sem] Oper.semAt_some

theorem ctz_facts {r : Nat} (h0 : r ≠ 0) (h : r < 2 ^ 64) : Lib.ctz 64 r < 64 ∧ r.testBit (Lib.ctz 64 r) = true ∧ (∀ i, i < Lib.ctz 64 r → r.testBit i = false) ∧ ∀ i, (r &&& (r - 1)).testBit i = (r.testBit i && !decide (i = Lib.ctz 64 r)) := by
  have hc : Lib.ctz 64 r = Lib.ctzFrom 64 r := by unfold Lib.ctz; rw [if_neg h0]
  obtain ⟨m, hm, hlt⟩ := Lib.ctzFrom_spec 64 r (by omega) h
  rw [hc]
  generalize Lib.ctzFrom 64 r = t at *
  have hb : ∀ i, r.testBit i = (decide (t ≤ i) && (2 * m + 1).testBit (i - t)) := by
    intro i; rw [hm, Nat.testBit_two_pow_mul]
  have hpos : 0 < 2 ^ t := Nat.two_pow_pos t
  have hr1 : r - 1 = 2 ^ t * (2 * m) + (2 ^ t - 1) := by
    rw [hm, Nat.mul_add, Nat.mul_one]; omega
  have hb1 : ∀ i, (r - 1).testBit i = if i < t then (2 ^ t - 1).testBit i else (2 * m).testBit (i - t) := by
    intro i; rw [hr1, Nat.testBit_two_pow_mul_add _ (by omega)]
  refine ⟨hlt, ?_, fun i hi => ?_, fun i => ?_⟩
  · rw [hb]; simp
  · rw [hb]; simp; omega
  · rw [Nat.testBit_and, hb1, hb]
    by_cases h1 : i < t
    · rw [if_pos h1]
      have : decide (t ≤ i) = false := by simpa using h1
      rw [this]; simp
    · rw [if_neg h1]
      have : decide (t ≤ i) = true := by simpa using h1
      rw [this, Bool.true_and]
      by_cases h2 : i = t
      · subst h2; simp
      · obtain ⟨j, hj⟩ : ∃ j, i - t = j + 1 := ⟨i - t - 1, by omega⟩
        rw [hj, Nat.testBit_add_one, Nat.testBit_add_one, show (2 * m + 1) / 2 = m by omega, show 2 * m / 2 = m by omega]
        simp [h2]

def u64Of : Value → Nat
  | .int _ n => n.toNat
  | _ => 0
def bitsN (n : Nat) : List Nat := (List.range' 0 64).filter n.testBit

theorem filter_from (f : Nat → Bool) : ∀ (d p t : Nat), p + d = t → t < 64 → (∀ i, p ≤ i → i < t → f i = false) → f t = true → (List.range' p (64 - p)).filter f = t :: (List.range' (t + 1) (64 - (t + 1))).filter f := by
  intro d
  induction d with
  | zero =>
    intro p t ht h64 _ hft
    have : p = t := by omega
    subst this
    rw [show 64 - p = (64 - (p + 1)) + 1 by omega, List.range'_succ, List.filter_cons, if_pos hft]
  | succ d ih =>
    intro p t ht h64 hf hft
    rw [show 64 - p = (64 - (p + 1)) + 1 by omega, List.range'_succ, List.filter_cons, if_neg (by rw [hf p (Nat.le_refl _) (by omega)]; decide)]
    exact ih (p + 1) t (by omega) h64 (fun i h1 h2 => hf i (by omega) h2) hft

set_option maxRecDepth 100000 in
set_option maxHeartbeats 2000000 in
theorem bits1_in (F : Fence) (h45 : F.fn 54) (h46 : F.fn 55) (hro : F.round = none) (htz : ∀ (m x : Nat) (w : World), x < 18446744073709551616 → TabAt 2 Lib.deBruijn64tab w → CallsIn F m Tryd.prog 55 #[.int .u64 x] w fun e w' => e = .returned (.int .i64 (Lib.ctz 64 x)) ∧ w' = w) (n l : Nat) (hn : 1 ≤ n) (b : Nat) (o : Nat) (s : Int) (hs : inK .i64 s) (J Jx : Nat → World → Prop) (W : World)
    (hR : ∀ k W', J k W' → W'.cell? ⟨b, o, none⟩ = some (.int .i64 s) ∧ TabAt 2 Lib.deBruijn64tab W')
    (hY : ∀ m k x W1, ((bitsN (s % 18446744073709551616).toNat).map fun (i : Nat) => Value.int .i64 (i : Int))[k]? = some x → J k W1 →
      YieldAt F m Tryd.prog l #[x] W1 fun e W' => (e = .returned (.bool true) ∧ J (k + 1) W') ∨ (e = .returned (.bool false) ∧ Jx (k + 1) W')) (h0 : J 0 W) :
    CallsIn F n Tryd.prog 54 #[.func (.yield l) #[] #[], .pointer (some ⟨b, o, none⟩)] W fun e W' => (∃ v, e = .returned v) ∧ (J (bitsN (s % 18446744073709551616).toNat).length W' ∨ ∃ k, Jx k W') := by
  obtain ⟨N, hN⟩ : ∃ N, N = (s % 18446744073709551616).toNat := ⟨_, rfl⟩
  have hN64 : N < 18446744073709551616 := by omega
  have hw : IntKind.u64.wrap s = (N : Int) := by rw [IntKind.wrap_u64]; omega
  rw [← hN] at hY ⊢
  refine callsIn_of_wp Tryd.func54 rfl h45 ?_ hro
  simp only [Tryd.ntmps54, List.size_toArray, List.length_cons, List.length_nil, Nat.reduceAdd, Nat.reduceSub, Array.replicate_succ, Array.replicate_zero, List.push_toArray, List.append_toArray, List.nil_append, List.cons_append]
  have hc0 := (hR 0 W h0).1
  gi_wp2
  have hmx : max (s % 18446744073709551616) 0 = (N : Int) := by omega
  simp only [hmx]
  gi_loopw [3] (fun p wr => ∃ (r q k : Nat), p = .int .u64 (r : Int) ∧ r < 18446744073709551616 ∧ q ≤ 64 ∧ (∀ i, r.testBit i = (decide (q ≤ i) && N.testBit i)) ∧ (bitsN N).drop k = (List.range' q (64 - q)).filter N.testBit ∧ k ≤ (bitsN N).length ∧ J k wr)
    (fun p _ => u64Of p)
  case atStart =>
    exact ⟨N, 0, 0, rfl, hN64, by omega, fun i => by simp, rfl, by omega, h0⟩
  case round =>
    obtain ⟨r, q, k, rfl, hr, hq, hb, hd, hk, hJ⟩ := hrel
    obtain ⟨hc, hT⟩ := hR k wr hJ
    by_cases h0 : r = 0
    · subst h0
      have hkl : k = (bitsN N).length := by
        have : (List.range' q (64 - q)).filter N.testBit = [] := by
          rw [List.filter_eq_nil_iff]
          intro i hi
          have hqi := (List.mem_range'_1.1 hi).1
          have := hb i
          simp only [Nat.zero_testBit, decide_eq_true hqi, Bool.true_and] at this
          rw [← this]; decide
        rw [this, List.drop_eq_nil_iff] at hd
        omega
      subst hkl
      gi_wp2
      go_end0
      exact ⟨⟨_, rfl⟩, .inl hJ⟩
    · obtain ⟨f1, f2, f3, f4⟩ := ctz_facts h0 hr
      obtain ⟨t, ht⟩ : ∃ t, t = Lib.ctz 64 r := ⟨_, rfl⟩
      rw [← ht] at f1 f2 f3 f4
      have hqt : q ≤ t := by
        have := hb t; rw [f2] at this
        simp only [Bool.true_eq, Bool.and_eq_true, decide_eq_true_eq] at this; exact this.1
      have hNt : N.testBit t = true := by
        have := hb t; rw [f2] at this
        simp only [Bool.true_eq, Bool.and_eq_true, decide_eq_true_eq] at this; exact this.2
      have hd2 := filter_from N.testBit (t - q) q t (by omega) f1 (fun i h1 h2 => by
        have := hb i; rw [f3 i h2] at this
        simpa [h1] using this.symm) hNt
      rw [hd2] at hd
      have hkl : k < (bitsN N).length := by
        rcases Nat.lt_or_ge k (bitsN N).length with h | h
        · exact h
        · rw [List.drop_of_length_le h] at hd; cases hd
      have hxk : (bitsN N)[k]? = some t := by
        rw [List.drop_eq_getElem_cons hkl] at hd
        injection hd with hd1 _
        rw [List.getElem?_eq_getElem hkl, hd1]
      have hdk : (bitsN N).drop (k + 1) = (List.range' (t + 1) (64 - (t + 1))).filter N.testBit := by
        rw [List.drop_eq_getElem_cons hkl] at hd
        injection hd
      obtain ⟨fn, tmps, assign, body, hy, hRd⟩ := hY (n - 1) k (.int .i64 (t : Int)) wr (by rw [List.getElem?_map, hxk]; rfl) hJ
      have hne : ((r : Int) == 0) = false := by simp; omega
      have hnext : ∀ W', J (k + 1) W' → ∃ (r' q' k' : Nat), (Value.int .u64 ((r &&& (r - 1) : Nat) : Int) : Value) = .int .u64 (r' : Int) ∧ r' < 18446744073709551616 ∧ q' ≤ 64 ∧ (∀ i, r'.testBit i = (decide (q' ≤ i) && N.testBit i)) ∧
          (bitsN N).drop k' = (List.range' q' (64 - q')).filter N.testBit ∧ k' ≤ (bitsN N).length ∧ J k' W' := by
        intro W' hJ'
        refine ⟨r &&& (r - 1), t + 1, k + 1, rfl, Nat.lt_of_le_of_lt Nat.and_le_left hr, f1, fun i => ?_, hdk, hkl, hJ'⟩
        rw [f4, hb]
        by_cases h1 : i = t
        · have hni : decide (t + 1 ≤ i) = false := decide_eq_false (by omega)
          rw [hni, decide_eq_true h1]; simp
        · by_cases h2 : q ≤ i
          · by_cases h3 : t + 1 ≤ i
            · simp [h1, h2, h3]
            · have := hb i; rw [f3 i (by omega)] at this
              simp only [h2, decide_true, Bool.true_and] at this
              rw [← this]; simp
          · have h3 : ¬ t + 1 ≤ i := by omega
            simp [h2, h3]
      have hmeas : u64Of (.int .u64 ((r &&& (r - 1) : Nat) : Int)) < r := by
        show ((r &&& (r - 1) : Nat) : Int).toNat < r
        rw [Int.toNat_natCast]
        have : r &&& (r - 1) ≤ r - 1 := Nat.and_le_right
        omega
      have hand : ∀ (x : Int), x = (r : Int) - 1 → bits .and .u64 (r : Int) x = ((r &&& (r - 1) : Nat) : Int) := by
        intro x hx
        rw [hx, show (r : Int) - 1 = ((r - 1 : Nat) : Int) by omega, bits_and_u64_nat r _ hr (by omega)]
      have htz' := htz
      clear hb hd hdk hd2 f1 f2 f3 f4 hNt hqt hxk hkl hY hR hmx hw hN hN64 hq hk
      subst ht
      gi_wp2_with (gi_at_call 55; refine (htz _ r _ hr hT).mono ?_; rintro e w' ⟨rfl, rfl⟩)
      refine hRd.mono ?_
      rintro e W' (⟨rfl, hJ'⟩ | ⟨rfl, hJx'⟩)
      · have hsub : IntKind.u64.wrap ((r : Int) - 1) = (r : Int) - 1 := by rw [IntKind.wrap_u64]; omega
        have hand' := hand _ rfl
        gi_wp2
        exact ⟨hnext _ hJ', by show _ < ((r : Int)).toNat; rw [Int.toNat_natCast]; exact hmeas⟩
      · gi_wp2
        refine bodyPost_ret (results_none rfl _ _ _) rfl ?_
        exact ⟨⟨_, rfl⟩, .inr ⟨_, hJx'⟩⟩

abbrev tabD : List Int := [0, 1, 56, 2, 57, 49, 28, 3, 61, 58, 42, 50, 38, 29, 17, 4, 62, 47, 59, 36, 45, 43, 51, 22, 53, 39, 33, 30, 24, 18, 12, 5,
  63, 55, 48, 27, 60, 41, 37, 16, 46, 35, 44, 21, 52, 32, 23, 11, 54, 26, 40, 15, 34, 20, 31, 10, 25, 14, 19, 9, 13, 8, 7, 6]
/-- the library's table -/
def glT : List (Nat × Dat) := [(2, ⟨.ar 64 (.int .u8), tabD⟩)]

theorem tab_of {w : World} {ro : Nat → Prop} (h : GlOk glT w ro) : TabAt 2 Lib.deBruijn64tab w := by
  obtain ⟨_, us, h1, hn, css, hcs, hok⟩ := h 2 _ (List.mem_singleton.2 rfl)
  have hlen : css.length = 64 := hok.1
  have hflat : ∀ (xs : List Int) (css : List (List Value)), css.length = xs.length → (∀ (i : Nat) x u, xs[i]? = some x → css[i]? = some u → u = [Value.int .u8 x]) → css.flatten = xs.map (Value.int .u8) := by
    intro xs
    induction xs with
    | nil => intro css h _; cases css with
      | nil => rfl
      | cons => cases h
    | cons x r ih =>
      intro css h hx
      cases css with
      | nil => cases h
      | cons c cs =>
        rw [List.flatten_cons, hx 0 x c rfl rfl, ih cs (by simpa using h) (fun i x u h1 h2 => hx (i + 1) x u (by simpa using h1) (by simpa using h2))]
        rfl
  have hus : us = tabD.map (Value.int .u8) := by
    rw [hcs]
    exact hflat tabD css hok.1 fun i x u h1 h2 => (hok.2 i x u h1 h2).2.1
  intro j hj
  apply h1
  rw [hus, List.getElem?_map]
  have hj' : j < 64 := hj
  have : ∀ j : Fin 64, tabD[j.1]? = some ((Lib.deBruijn64tab.getD j.1 0 : Nat) : Int) := by decide
  rw [this ⟨j, hj'⟩]; rfl

/-- what the iterator over the things of a set hands on -/
def bitsOf (s : Int) : List Int := (bitsN (s % 18446744073709551616).toNat).map fun (i : Nat) => (i : Int)
def cBits : ItC := ⟨.pr (.ptr (.int .i64)) .un, .int .i64, fun x => match x.1 with
  | some s => some (bitsOf s)
  | none => none⟩

theorem itBits : ItOk Tryd.prog glT 54 cBits := by
  refine ⟨⟨_, Tryd.func54, rfl, rfl⟩, fun y xs hy => ?_⟩
  obtain ⟨y1, y2⟩ := y
  cases y1 with
  | none => cases hy
  | some s =>
    have hy : some (bitsOf s) = some xs := hy
    injection hy with hy; subst hy
    refine ⟨fun x hx w ro => ?_, fun caps n l J Jx W hJ hJx hG hY h0 => ?_⟩
    · unfold bitsOf at hx
      obtain ⟨i, hi, rfl⟩ := List.mem_map.1 hx
      have := (List.mem_range'_1.1 (List.mem_filter.1 hi).1).2
      exact ⟨rfl, inK_i64.2 ⟨by omega, by omega⟩⟩
    · have hR0 := (hG 0 W h0).2
      obtain ⟨c1, c2, hcs, ⟨ad, us, hc1, hsp, hblk, hcell, hus, hin⟩, hc2⟩ := hR0
      have hc2' : c2 = [] := hc2
      have hcaps : caps = #[.pointer (some ad)] := by apply Array.toList_inj.1; rw [hcs, hc1, hc2']; rfl
      subst hcaps
      obtain ⟨b, o, sp⟩ := ad
      have hsp' : sp = none := hsp
      subst hsp'
      have hmap : (bitsOf s).map (fun x => (Ty.int .i64).mk ((Ty.int .i64).cv x)) = (bitsN (s % 18446744073709551616).toNat).map fun (i : Nat) => Value.int .i64 (i : Int) := by
        unfold bitsOf; rw [List.map_map]; rfl
      have hlen : ((bitsOf s).map (fun x => (Ty.int .i64).mk ((Ty.int .i64).cv x))).length = (bitsN (s % 18446744073709551616).toNat).length := by rw [hmap, List.length_map]
      have hmap' : (bitsOf s).map (fun x => cBits.e.mk (cBits.e.cv x)) = (bitsN (s % 18446744073709551616).toNat).map fun (i : Nat) => Value.int .i64 (i : Int) := hmap
      have hlen' : ((bitsOf s).map (fun x => cBits.e.mk (cBits.e.cv x))).length = (bitsN (s % 18446744073709551616).toNat).length := hlen
      rw [hlen']
      rw [hmap'] at hY
      have key := bits1_in (FW none) trivial trivial rfl (fun m x w hx hT => callsIn_wide.2 (tz x hx w fun _ => hT)) (n + 1) l (by omega) b o s hin J Jx W (fun k W' hk => ?_) hY h0
      · exact callsIn_FW.2 (callsIn_FW.1 key)
      · obtain ⟨g1, g2⟩ := hG k W' hk
        refine ⟨?_, tab_of g1⟩
        obtain ⟨c1, c2, hcs, ⟨ad, us, hc1, _, _, hcell, hus, _⟩, hc2⟩ := g2
        rw [hc1] at hcs
        have hc2' : c2 = [] := hc2
        rw [hc2'] at hcs
        injection hcs with hcs _
        injection hcs with hcs; injection hcs with hcs
        subst hcs
        have := hcell 0 (.int .i64 s) (by rw [hus]; rfl)
        simpa [addr_add] using this
end Go.Proofs.YtlopkkoenfngiaaDoor

/- Quorums: what the small functions answer. -/
namespace Go.Proofs.YtlopkkoenfngiaaDoor
open Go.Vc
abbrev I : Ty := .int .i64
abbrev tErr : Ty := .err 58
abbrev tB : Ty := .fn 54 (.pr (.ptr I) .un)
abbrev tF (g : Nat) : Ty := .fn g (.pr (.ptr I) .un)
abbrev tW : Ty := .fn 40 (.pr (.ptr (.sl I)) .un)
def Ef (g : Nat) : Env := { tys := [(3, I), (4, .bool), (22, .sl I), (25, tErr), (28, tW), (61, tB), (64, tF g)], errT := 58, eqs := [], els := [(22, 3)] }
def Et : Env := Ef 56
def Et2 : Env := Ef 46
theorem Et_ok : EnvOk Tryd.prog Et := EnvOk.of_list (by kernel_rfl) (by kernel_rfl) (by kernel_rfl)
theorem Et2_ok : EnvOk Tryd.prog Et2 := EnvOk.of_list (by kernel_rfl) (by kernel_rfl) (by kernel_rfl)
def an1 (α : Type) (r : Nat) (st : St → α → St) (ok : α → Prop) (mu : α → Nat) : Ann := [loopAt r α [] st (fun _ => ok) mu]
def inB (n lo hi : Int) : Bool := decide (lo ≤ n) && decide (n ≤ hi)
def cWithin : Ctr := cdet [I, I, I] (fun _ _ _ => True) (fun a b c => [⟨.bool, inB a b c⟩])
def cPow2 : Ctr := cdet [I] (fun (n : Int) => n ≤ 61 ∧ True) (fun (n : Int) => [⟨I, (2 : Int) ^ n.toNat⟩])
def bitB (s i : Int) : Bool := decide (0 ≤ s) && s.toNat.testBit i.toNat
def cBit : Ctr := cdet [I, I] (fun _ _ => True) (fun s i => [⟨.bool, bitB s i⟩])
def subN : Nat → Nat → Int → Bool
  | 0, _, _ => true
  | f + 1, a, b => if a = 0 then true else if a % 2 = 1 ∧ b.tmod 2 = 0 then false else subN f (a / 2) (b.tdiv 2)
/-- are all things of the one set in the other one? -/
def subB (a b : Int) : Bool := subN a.toNat a.toNat b
def cSub : Ctr := cdet [I, I] (fun _ _ => True) (fun a b => [⟨.bool, subB a b⟩])
def anPow2 (n : Int) : Ann := an1 Nat 3 (fun st i => St.at st [(3, .d I ((2 : Int) ^ i)), (4, .d I (i : Int))]) (fun i => i ≤ n.toNat ∧ True) (fun i => n.toNat - i)
def anBit (s i : Int) : Ann := an1 Nat 2 (fun st k => St.at st [(0, .d I (s.tdiv (2 ^ k))), (5, .d I (k : Int))]) (fun k => k ≤ i.toNat ∧ True) (fun k => i.toNat - k)
def anSub (a b : Int) : Ann := an1 (Int × Int) 1 (fun st x => St.at st [(0, .d I x.1), (1, .d I x.2)]) (fun x => subB a b = subB x.1 x.2 ∧ inK .i64 x.1 ∧ inK .i64 x.2) (fun x => x.1.toNat)
def cInts : Ctr := cdet [.sl I, .sl I] (fun _ _ => True) (fun (a b : List Int) => [⟨.bool, a == b⟩])
def anInts (a b : List Int) : Ann := an1 Nat 4 (fun st i => St.at st [(5, .d I (i : Int))]) (fun i => i ≤ a.length ∧ a.take i = b.take i) (fun i => a.length - i)
end Go.Proofs.YtlopkkoenfngiaaDoor

/- Quorums: what the package's functions answer. -/
namespace Go.Proofs.YtlopkkoenfngiaaDoor
open Go.Vc
def cBoth : Ctr := cdet [I, I] (fun (a b : Int) => a < 2305843009213693952 ∧ True) (fun (a b : Int) => [⟨I, ((a.toNat &&& b.toNat : Nat) : Int)⟩])
def anBoth (a b : Int) : Ann := [joinAll, loopAt 3 Nat [] (fun st k => St.at (St.only st [4]) [(0, .d I (a.tdiv (2 ^ k))), (1, .d I (b.tdiv (2 ^ k))), (5, .d I (((a.toNat &&& b.toNat) % 2 ^ k : Nat) : Int)), (6, .d I ((2 : Int) ^ k))]) (fun _ k => k ≤ 61 ∧ True) (fun k => 62 - k)]
def maskB (s n : Int) : Bool := decide (0 ≤ s) && decide (s < 2 ^ n.toNat)
def cMask : Ctr := cdet [I, I] (fun (_ n : Int) => 0 ≤ n ∧ n ≤ 61) (fun (s n : Int) => [⟨.bool, maskB s n⟩])
def meetB (a b : Int) : Bool := decide (((a.toNat &&& b.toNat : Nat) : Int) ≠ 0)
/-- what is wrong with a set -/
def setE (n : Int) (l : List Int) (i : Nat) : Int :=
  if maskB (l.getD i 0) n = false then 1 else if l.getD i 0 = 0 then 3 else if (l.take i).all (fun t => meetB (l.getD i 0) t) = true then 0 else 6
def setsE (n : Int) (l : List Int) : Nat → Nat → Int
  | 0, _ => 0
  | f + 1, i => if setE n l i = 0 then setsE n l f (i + 1) else setE n l i
def chkS (n : Int) (l : List Int) : Int := if inB n 1 8 = false then 1 else if l.length = 0 then 5 else if 20 < l.length then 4 else setsE n l l.length 0
def cCheck : Ctr := cdet [I, .sl I] (fun _ _ => True) (fun n l => [⟨tErr, chkS n l⟩])
def inCheck (n : Int) (l : List Int) (i : Nat) : Prop := chkS n l = setsE n l (l.length - i) i ∧ i ≤ l.length ∧ inB n 1 8 = true ∧ ∀ j, j < i → setE n l j = 0
def anCheck (n : Int) (l : List Int) : Ann :=
  [joinAll, loopAt 8 Nat [] (fun st i => St.at (St.only st [0, 1, 4, 21, 22]) [(23, .d I (i : Int))]) (fun _ i => inCheck n l i) (fun i => l.length - i),
   loopAt 15 Nat [] (fun st j => St.at (St.only st [0, 1, 4, 6, 21, 22, 23, 38, 39]) [(40, .d I (j : Int))]) (fun st j => j ≤ (st.i 23).toNat ∧ ∀ t ∈ (l.take (st.i 23).toNat).take j, meetB (l.getD (st.i 23).toNat 0) t = true) (fun j => l.length - j)]
/-- is the one in the other one? -/
def subS (s v : Int) : Bool := decide (((s.toNat ^^^ (s.toNat &&& v.toNat) : Nat) : Int) = 0)
def cHas1 : Ctr := cdet [I, .ptr I] (fun (s : Int) (p : Option Int) => 0 ≤ s ∧ ∃ v, p = some v ∧ 0 ≤ v) (fun (s : Int) (p : Option Int) => [⟨.bool, subS s (p.getD 0)⟩])
def lstB (v s : Int) : Bool := (!decide (s = v)) && subS s v
def cLeast1 : Ctr := cdet [I, .ptr I] (fun (s : Int) (p : Option Int) => 0 ≤ s ∧ ∃ v, p = some v ∧ 0 ≤ v) (fun (s : Int) (p : Option Int) => [⟨.bool, lstB (p.getD 0) s⟩])
/-- the place of the first one that answers -/
def idxP (p : Int → Bool) : List Int → Int → Int
  | [], _ => -1
  | x :: r, i => if p x = true then i else idxP p r (i + 1)
def cIdxF (g : Nat) (q : Int → Int → Bool) : Ctr := cdet [.sl I, tF g] (fun (l : List Int) (f : Option (Option Int × Unit)) => (∃ v, f = some (some v, ()) ∧ 0 ≤ v) ∧ ∀ s ∈ l, 0 ≤ s)
  (fun (l : List Int) (f : Option (Option Int × Unit)) => [⟨I, idxP (q ((f.getD (none, ())).1.getD 0)) l 0⟩])
def cConF (g : Nat) (q : Int → Int → Bool) : Ctr := cdet [.sl I, tF g] (fun (l : List Int) (f : Option (Option Int × Unit)) => (∃ v, f = some (some v, ()) ∧ 0 ≤ v) ∧ ∀ s ∈ l, 0 ≤ s)
  (fun (l : List Int) (f : Option (Option Int × Unit)) => [⟨.bool, l.any (q ((f.getD (none, ())).1.getD 0))⟩])
def anIdx (p : Int → Bool) (l : List Int) : Ann := [loopAt 2 Nat [] (fun st i => St.at (St.only st [0, 1, 4, 7]) [(8, .d I (i : Int))]) (fun _ i => i ≤ l.length ∧ idxP p l 0 = idxP p (l.drop i) (i : Int)) (fun i => l.length - i)]
def hasB (l : List Int) (v : Int) : Bool := l.any fun s => subS s v
def cHas0 : Ctr := cdet [.sl I, I] (fun (l : List Int) (v : Int) => 0 ≤ v ∧ ∀ s ∈ l, 0 ≤ s) (fun l v => [⟨.bool, hasB l v⟩])
def anHas0 : Ann := [freezeAt 1 [3]]
def hasE (n : Int) (l : List Int) (v : Int) : Int := if chkS n l = 0 then (if maskB v n = true then 0 else 1) else chkS n l
def cHas : Ctr := cdet [I, .sl I, I] (fun _ _ _ => True) (fun n l v => [⟨.bool, if hasE n l v = 0 then hasB l v else false⟩, ⟨tErr, hasE n l v⟩])
def cIdx : Ctr := cdet [.sl I, I] (fun _ _ => True) (fun (l : List Int) (v : Int) => [⟨I, idxP (fun s => decide (v = s)) l 0⟩])
def cCon : Ctr := cdet [.sl I, I] (fun _ _ => True) (fun (l : List Int) (v : Int) => [⟨.bool, l.any fun s => decide (v = s)⟩])
end Go.Proofs.YtlopkkoenfngiaaDoor

/- Quorums: the least sets, and whether they are full. -/
namespace Go.Proofs.YtlopkkoenfngiaaDoor
open Go.Vc
/-- all nodes but these -/
def complN (n x : Int) : Int := (((1 * (2 : Int) ^ n.toNat - 1).toNat ^^^ ((1 * (2 : Int) ^ n.toNat - 1).toNat &&& x.toNat) : Nat) : Int)
def neither (n : Int) (l : List Int) (x : Nat) : Bool := !hasB l (x : Int) && !hasB l (complN n (x : Int))
def firstP (p : Nat → Bool) : Nat → Nat → Option Nat
  | 0, _ => none
  | f + 1, i => if p i = true then some i else firstP p f (i + 1)
def fullO (n : Int) (l : List Int) : Option Nat := if chkS n l = 0 then firstP (neither n l) (2 ^ n.toNat) 0 else some 0
def isF (n : Int) (l : List Int) : Bool := (fullO n l).isNone
def someN (n : Int) (l : List Int) : Int := (((fullO n l).getD 0 : Nat) : Int)
def cFull : Ctr := cdet [I, .sl I] (fun _ _ => True) (fun n l => [⟨.bool, isF n l⟩, ⟨I, someN n l⟩, ⟨tErr, chkS n l⟩])
def anFull (n : Int) (l : List Int) : Ann :=
  [joinAll, loopAt 5 Nat [] (fun st i => St.at (St.only st [0, 1, 4, 5, 6, 16]) [(17, .d I (i : Int))]) (fun _ i => i ≤ 2 ^ n.toNat ∧ fullO n l = firstP (neither n l) (2 ^ n.toNat - i) i ∧ chkS n l = 0) (fun i => 2 ^ n.toNat - i)]
def leastB (l : List Int) (s : Int) : Bool := (l.any fun t => decide (s = t)) && !l.any (lstB s)
def leastU (l : List Int) (k : Nat) : List Int := ((List.range k).map fun (i : Nat) => (i : Int)).filter (leastB l)
def cLeast : Ctr := cdet [I, .sl I] (fun _ _ => True) (fun n l => [⟨.sl I, if chkS n l = 0 then leastU l (2 ^ n.toNat) else []⟩, ⟨tErr, chkS n l⟩])
def anLeast (n : Int) (l : List Int) : Ann :=
  [joinAll, freezeAt 8 [8], loopAt 6 Nat [(7, 3, I)] (fun st i => { St.at (St.only st [0, 1, 4, 5, 7, 16]) [(17, .d I (i : Int))] with ob := st.ob.set 0 (.row 3 I (leastU l i)) }) (fun _ i => i ≤ 2 ^ n.toNat ∧ chkS n l = 0) (fun i => 2 ^ n.toNat - i)]
end Go.Proofs.YtlopkkoenfngiaaDoor

/- Quorums: votes. -/
namespace Go.Proofs.YtlopkkoenfngiaaDoor
open Go.Vc
def cBitsF : Ctr := cdet [I] (fun _ => True) (fun (s : Int) => [⟨tB, some (some s, ())⟩])
def anBits : Ann := [freezeAt 1 [1]]
/-- the weights of some nodes, together -/
def sumL (w : List Int) (l : List Int) : Int := (l.map fun i => w.getD i.toNat 0).sum
def sumW (w : List Int) (s : Int) : Int := sumL w (bitsOf s)
def wOk (w : List Int) : Prop := w.length ≤ 8 ∧ ∀ x ∈ w, 0 ≤ x ∧ x ≤ 20
def cSumW : Ctr := cdet [I, .ptr (.sl I)] (fun (s : Int) (p : Option (List Int)) => ∃ w, p = some w ∧ wOk w ∧ 0 ≤ s ∧ s < 2 ^ w.length) (fun (s : Int) (p : Option (List Int)) => [⟨I, sumW (p.getD []) s⟩])
def anSumW (w : List Int) : Ann := [rangeAt 3 I (List Int) id (fun st l => { St.only st [1, 3, 6] with ob := st.ob.set 0 (.var 3 I (sumL w l)) }) (fun _ _ => True)]
def cSumL : Ctr := cdet [.sl I] (fun (l : List Int) => (∀ x ∈ l, 0 ≤ x ∧ x ≤ 20) ∧ l.length ≤ 8) (fun (l : List Int) => [⟨I, l.sum⟩])
def anSum (l : List Int) : Ann := [loopAt 3 Nat [] (fun st i => St.at (St.only st [0, 2]) [(4, .d I (i : Int)), (3, .d I (l.take i).sum)]) (fun _ i => i ≤ l.length) (fun i => l.length - i)]
/-- a set without one -/
def lessI (s i : Int) : Int := ((s.toNat ^^^ (s.toNat &&& (1 * (2 : Int) ^ i.toNat).toNat) : Nat) : Int)
def lowL (w : List Int) (need s : Int) (l : List Int) : Bool := decide (need ≤ sumW w s) && l.all fun i => decide (sumW w (lessI s i) < need)
def lowB (w : List Int) (need s : Int) : Bool := lowL w need s (bitsOf s)
def votesU (w : List Int) (need : Int) (k : Nat) : List Int := ((List.range k).map fun (i : Nat) => (i : Int)).filter (lowB w need)
def votesE (w : List Int) (need : Int) : Int :=
  if w.length = 0 then 5 else if 8 < w.length then 4 else if w.all (fun x => inB x 0 20) = false then 1 else if inB need 1 w.sum = false then 1 else if 2 * need ≤ w.sum then 6 else 0
def votesL (w : List Int) (need : Int) : List Int := if votesE w need = 0 then votesU w need (2 ^ w.length) else []
def cVotes : Ctr := cdet [.sl I, I] (fun _ _ => True) (fun w need => [⟨.sl I, votesL w need⟩, ⟨tErr, votesE w need⟩])
def anVotes (w : List Int) (need : Int) : Ann :=
  [joinAll, freezeAt 18 [2],
   loopAt 8 Nat [] (fun st i => St.at (St.only st [2, 3, 4, 5, 6, 23, 24]) [(25, .d I (i : Int)), (7, .d I (w.take i).sum)]) (fun _ i => i ≤ w.length ∧ 0 < w.length ∧ w.length ≤ 8 ∧ ∀ x ∈ w.take i, inB x 0 20 = true) (fun i => w.length - i),
   loopAt 21 Nat [(11, 3, I)] (fun st i => { St.at (St.only st [3, 4, 5, 6, 10, 11, 49]) [(50, .d I (i : Int))] with ob := st.ob.set 3 (.row 3 I (votesU w need i)) }) (fun _ i => i ≤ 2 ^ w.length ∧ votesE w need = 0) (fun i => 2 ^ w.length - i),
   rangeAt 26 I (List Int) id (fun st l => { St.only st [3, 4, 5, 6, 10, 11, 12, 13, 49, 50, 59] with ob := st.ob.set 5 (.var 4 .bool (lowL w need (st.i 50) l)) }) (fun _ _ => True)]
end Go.Proofs.YtlopkkoenfngiaaDoor

/- Quorums: the laws. -/
namespace Go.Proofs.YtlopkkoenfngiaaDoor
open Go.Vc
def cFact : Ctr := cdet [] True [⟨.bool, true⟩]
abbrev cLawV : Ctr := cdet [.sl I, I] (fun _ _ => True) (fun _ _ => [⟨.bool, true⟩])
abbrev cLawF : Ctr := cdet [I, .sl I, .sl I] (fun _ _ _ => True) (fun _ _ _ => [⟨.bool, true⟩])
abbrev cLawL : Ctr := cdet [I, .sl I, I] (fun _ _ _ => True) (fun _ _ _ => [⟨.bool, true⟩])
def someB (l : List Int) (m : Int) (k : Nat) : Bool := (List.range k).any fun q => decide (0 < m) && subB (l.getD q 0) m
def anQV (w : List Int) (need : Int) : Ann :=
  [joinAll, loopAt 9 Nat [] (fun st i => St.at (St.only st [0, 1, 6, 8]) [(9, .d I (i : Int))]) (fun _ i => i ≤ (votesL w need).length ∧ votesE w need = 0) (fun i => (votesL w need).length - i),
   loopAt 14 Nat [] (fun st j => St.at (St.only st [0, 1, 6, 8, 9]) [(10, .d I (j : Int))]) (fun st j => (j : Int) ≤ st.i 9 ∧ True) (fun j => (votesL w need).length - j),
   loopAt 24 Nat [] (fun st i => St.at (St.only st [6, 11]) [(13, .d I (i : Int))]) (fun _ i => i ≤ (votesL w (need + 1)).length ∧ votesE w need = 0 ∧ votesE w (need + 1) = 0) (fun i => (votesL w (need + 1)).length - i),
   loopAt 28 Nat [] (fun st j => St.at (St.only st [6, 11, 13]) [(14, .d .bool (someB (votesL w need) ((votesL w (need + 1)).getD (st.i 13).toNat 0) j)), (15, .d I (j : Int))]) (fun _ j => j ≤ (votesL w need).length ∧ True) (fun j => (votesL w need).length - j)]
def anQF (n : Int) (l o : List Int) : Ann :=
  [joinAll, loopAt 12 Nat [] (fun st i => St.at (St.only st [0, 1, 2, 9, 11, 12]) [(13, .d I (i : Int))]) (fun _ i => i ≤ l.length ∧ chkS n l = 0 ∧ isF n l = false) (fun i => l.length - i),
   loopAt 20 Nat [] (fun st i => St.at (St.only st [0, 1, 2]) [(14, .d I (i : Int))]) (fun _ i => i ≤ l.length ∧ chkS n l = 0 ∧ isF n l = true ∧ chkS n o = 0 ∧ ∀ j, j < i → hasB o (l.getD j 0) = true) (fun i => l.length - i),
   loopAt 28 Nat [] (fun st i => St.at (St.only st [0, 1, 2]) [(17, .d I (i : Int))]) (fun _ i => i ≤ o.length ∧ chkS n l = 0 ∧ isF n l = true ∧ chkS n o = 0 ∧ ∀ j, j < l.length → hasB o (l.getD j 0) = true) (fun i => o.length - i)]
def leastL (n : Int) (l : List Int) : List Int := leastU l (2 ^ n.toNat)
def anQL (n : Int) (l : List Int) : Ann :=
  [joinAll, loopAt 10 Nat [] (fun st i => St.at (St.only st [0, 1, 2, 8]) [(10, .d I (i : Int))]) (fun _ i => i ≤ (leastL n l).length ∧ chkS n l = 0) (fun i => (leastL n l).length - i),
   loopAt 13 Nat [] (fun st j => St.at (St.only st [0, 1, 2, 8, 10]) [(11, .d I (j : Int))]) (fun _ j => j ≤ (leastL n l).length ∧ True) (fun j => (leastL n l).length - j)]
end Go.Proofs.YtlopkkoenfngiaaDoor

/- How many bits a small number has: the library's function, walked. -/
namespace Go.Proofs.YtlopkkoenfngiaaDoor
open Go.RowKit Go.Shelf
attribute [local go_sem] Oper.semAt_some

def pA (x : Int) : Int := IntKind.u64.wrap (bits .and .u64 (x / 2) 6148914691236517205 + bits .and .u64 x 6148914691236517205)
def pB (x : Int) : Int := IntKind.u64.wrap (bits .and .u64 (x / 4) 3689348814741910323 + bits .and .u64 x 3689348814741910323)
def pC (x : Int) : Int := bits .and .u64 (IntKind.u64.wrap (x / 16 + x)) 1085102592571150095
def pD (x : Int) : Int := IntKind.u64.wrap (x + x / 256)
def pE (x : Int) : Int := IntKind.u64.wrap (x + x / 65536)
def pF (x : Int) : Int := IntKind.u64.wrap (x + x / 4294967296)
def popE (x : Int) : Int := bits .and .i64 (wrap64 (pF (pE (pD (pC (pB (pA x))))))) 127
/-- how many bits a number below 256 has -/
def popN (x : Nat) : Nat := ((List.range 8).filter x.testBit).length
theorem popE_eq : ∀ n : Fin 256, popE (n.val : Int) = (popN n.val : Int) := by decide +kernel

theorem many (n : Nat) (hn : n < 256) (w : World) : Calls Tryd.prog 47 #[.int .i64 (n : Int)] w fun e w' => e = .returned (.int .i64 (popN n : Int)) ∧ w' = w := by
  have hw : IntKind.u64.wrap (n : Int) = (n : Int) := by rw [IntKind.wrap_u64]; omega
  have he : popE (n : Int) = (popN n : Int) := popE_eq ⟨n, hn⟩
  go_enter Tryd.func47, Tryd.ntmps47
  go_wp2
  go_ret
  refine ⟨?_, rfl⟩
  rw [← he]
  simp [popE, pA, pB, pC, pD, pE, pF]
end Go.Proofs.YtlopkkoenfngiaaDoor

/- Quorums: what they mask. -/
namespace Go.Proofs.YtlopkkoenfngiaaDoor
open Go.Vc
def cMany : Ctr := cdet [I] (fun (n : Int) => 0 ≤ n ∧ n < 256) (fun (n : Int) => [⟨I, (popN n.toNat : Int)⟩])
def cManyR : Ctr := cdet [I] (fun (n : Int) => n < 256 ∧ True) (fun (n : Int) => [⟨I, (popN n.toNat : Int)⟩])
def popK (x k : Nat) : Nat := ((List.range k).filter x.testBit).length
def anManyR (s : Int) : Ann := [loopAt 2 Nat [] (fun st k => St.at (St.only st [2]) [(0, .d I (s.tdiv (2 ^ k))), (3, .d I (popK s.toNat k : Int))]) (fun _ k => k ≤ 8 ∧ True) (fun k => 9 - k)]
def popI (a b : Int) : Int := (popN (a.toNat &&& b.toNat) : Int)
/-- the least number that two of the first ones have in common -/
def MP (n : Int) (l : List Int) (i j : Nat) (m : Int) : Prop :=
  m ≤ n ∧ (∀ a b, (a < i ∧ b ≤ a ∨ a = i ∧ b < j) → m ≤ popI (l.getD a 0) (l.getD b 0)) ∧ (m = n ∨ ∃ a b, a < l.length ∧ b < l.length ∧ m = popI (l.getD a 0) (l.getD b 0))
def FP (n : Int) (l : List Int) (k : Nat) (f : Int) : Prop :=
  f ≤ n ∧ (∀ x : Nat, x < k → hasB l (complN n (x : Int)) = false → f ≤ (popN x : Int) - 1) ∧ (f = n ∨ ∃ x : Nat, x < 2 ^ n.toNat ∧ hasB l (complN n (x : Int)) = false ∧ f = (popN x : Int) - 1)
def cMasks : Ctr := cgen [I, .sl I] fun n l (k : List Dat → Prop) => ∀ a f : Int, (chkS n l = 0 → (∃ m : Int, MP n l l.length 0 m ∧ a = (m - 1).tdiv 2) ∧ FP n l (2 ^ n.toNat) f) → (chkS n l ≠ 0 → a = 0 ∧ f = 0) → k [⟨I, a⟩, ⟨I, f⟩, ⟨tErr, chkS n l⟩]
def anMasks (n : Int) (l : List Int) : Ann :=
  [joinAll, loopAt 6 (Nat × Int) [] (fun st x => St.at (St.only st [0, 1, 4, 5, 6, 21, 22]) [(23, .d I (x.1 : Int)), (8, .d I x.2)]) (fun _ x => x.1 ≤ l.length ∧ chkS n l = 0 ∧ MP n l x.1 0 x.2) (fun x => l.length - x.1),
   loopAt 9 (Nat × Int) [] (fun st x => St.at (St.only st [0, 1, 4, 5, 6, 10, 21, 22, 23, 31, 32]) [(33, .d I (x.1 : Int)), (8, .d I x.2)]) (fun st x => (x.1 : Int) ≤ st.i 23 + 1 ∧ MP n l (st.i 23).toNat x.1 x.2) (fun x => l.length + 1 - x.1),
   loopAt 16 (Nat × Int) [] (fun st x => St.at (St.only st [0, 1, 4, 6, 8, 47]) [(48, .d I (x.1 : Int)), (5, .d I x.2)]) (fun _ x => x.1 ≤ 2 ^ n.toNat ∧ chkS n l = 0 ∧ FP n l x.1 x.2) (fun x => 2 ^ n.toNat - x.1)]
def tightB (l : List Int) (a : Int) (i j : Nat) : Prop := ∃ p q, (p < i ∧ q < l.length ∨ p = i ∧ q < j) ∧ popI (l.getD p 0) (l.getD q 0) ≤ 2 * a + 2
def iOf (st : St) (i : Nat) : Option Int :=
  match st.tm.getD i .any with
  | .d (.int .i64) n => some n
  | _ => none
def anQM (n : Int) (l : List Int) : Ann :=
  [joinAll, loopAt 11 (Nat × Bool) [] (fun st x => St.at (St.only st [0, 1, 2, 8, 9]) [(12, .d I (x.1 : Int)), (11, .d .bool x.2)]) (fun st x => match iOf st 8 with
      | some a => x.1 ≤ l.length ∧ (x.2 = true ↔ tightB l a x.1 0)
      | none => False) (fun x => l.length - x.1),
   loopAt 14 (Nat × Bool) [] (fun st x => St.at (St.only st [0, 1, 2, 8, 9, 12]) [(13, .d I (x.1 : Int)), (11, .d .bool x.2)]) (fun st x => match iOf st 8, iOf st 12 with
      | some a, some i => x.1 ≤ l.length ∧ (x.2 = true ↔ tightB l a i.toNat x.1)
      | _, _ => False) (fun x => l.length - x.1)]
end Go.Proofs.YtlopkkoenfngiaaDoor

/- Generals: what the functions answer. -/
namespace Go.Proofs.YtlopkkoenfngiaaDoor
open Go.Vc
/-- how many there are, who lies, which lies are told -/
abbrev tAr : Ty := .pr I (.pr I (.pr (.sl I) .un))
abbrev Ar : Type := Int × Int × List Int × Unit
def En : Env := { tys := [(3, I), (4, .bool), (22, .sl I), (25, tErr), (61, tB), (68, tAr)], errT := 58, eqs := [], els := [(22, 3)], sa := [74] }
theorem En_ok : EnvOk Tryd.prog En := EnvOk.of_list (by kernel_rfl) (by kernel_rfl) (by kernel_rfl)
def cHasC : Ctr := cdet [I, I] (fun (s i : Int) => 0 ≤ s ∧ 0 ≤ i ∧ i < 64) (fun s i => [⟨.bool, bitB s i⟩])
def keyF (n : Int) (p : List Int) (i : Int) : Int := p.foldl (fun k y => k * n + y) i
def lastOf (p : List Int) : Int := p.getD (p.length - 1) 0
/-- what one sends to another one -/
def sendsF (a : Ar) (p : List Int) (i o : Int) : Int :=
  if bitB a.2.1 (lastOf p) = true then a.2.2.1.getD ((keyF a.1 p i).tmod (a.2.2.1.length : Int)).toNat 0 else o
structure ArOk (a : Ar) : Prop where
  n1 : 1 ≤ a.1
  n7 : a.1 ≤ 7
  l0 : 0 ≤ a.2.1
  ne : 0 < a.2.2.1.length
  le : a.2.2.1.length ≤ 24
  lie : ∀ x ∈ a.2.2.1, 0 ≤ x ∧ x ≤ 1
structure PaOk (n : Int) (p : List Int) : Prop where
  ne : 0 < p.length
  le : p.length ≤ 3
  el : ∀ y ∈ p, 0 ≤ y ∧ y < n
structure SendOk (a : Ar) (p : List Int) (i : Int) : Prop where
  ar : ArOk a
  pa : PaOk a.1 p
  to : 0 ≤ i ∧ i < a.1
def cSends : Ctr := cdet [tAr, .sl I, I, I] (fun (a : Ar) (p : List Int) (i _ : Int) => SendOk a p i) (fun (a : Ar) (p : List Int) (i o : Int) => [⟨I, sendsF a p i o⟩])
def anSends (a : Ar) (p : List Int) (i : Int) : Ann :=
  [loopAt 6 Nat [] (fun st k => St.at (St.only st [4, 8, 9, 26, 27]) [(10, .d I (keyF a.1 (p.take k) i)), (28, .d I (k : Int))]) (fun _ k => k ≤ p.length ∧ True) (fun k => p.length - k)]
/-- who is on a path -/
def onN (p : List Int) : Nat := p.foldl (fun m y => m ||| 2 ^ y.toNat) 0
def restN (n : Int) (p : List Int) : Nat := (2 ^ n.toNat - 1) ^^^ ((2 ^ n.toNat - 1) &&& onN p)
def gotL (a : Ar) (p : List Int) (o : Int) (x : List Int) : List Int := x.foldl (fun g i => g.set i.toNat (sendsF a p i o)) (List.replicate a.1.toNat 0)
def incL (l y x : List Int) : List Int := x.foldl (fun y i => y.set i.toNat (y.getD i.toNat 0 + l.getD i.toNat 0)) y
def outL (n : Int) (many : Int) (yes got x : List Int) : List Int := x.foldl (fun u i => if many < 2 * (yes.getD i.toNat 0 + got.getD i.toNat 0) then u.set i.toNat 1 else u) (List.replicate n.toNat 0)
def woN (r : Nat) (j : Int) : Nat := r ^^^ (r &&& 2 ^ j.toNat)
def yesL (n : Int) (r : Nat) (l : Int → List Int) (x : List Int) : List Int := x.foldl (fun y j => incL (l j) y (bitsOf (woN r j : Int))) (List.replicate n.toNat 0)
/-- what each that is not on a path takes for the order of the last one on it -/
def askF (a : Ar) : Nat → List Int → Int → List Int
  | 0, p, o => gotL a p o (bitsOf (restN a.1 p : Int))
  | d + 1, p, o =>
    outL a.1 (popN (restN a.1 p) : Int) (yesL a.1 (restN a.1 p) (fun j => askF a d (p ++ [j]) ((gotL a p o (bitsOf (restN a.1 p : Int))).getD j.toNat 0)) (bitsOf (restN a.1 p : Int)))
      (gotL a p o (bitsOf (restN a.1 p : Int))) (bitsOf (restN a.1 p : Int))
structure AskOk (d : Nat) (a : Ar) (p : List Int) (k o : Int) : Prop where
  ar : ArOk a
  pa : PaOk a.1 p
  od : 0 ≤ o ∧ o ≤ 1
  k0 : 0 ≤ k
  kd : k < (d : Int)
  k3 : (p.length : Int) + k ≤ 3
/-- the answer at less than some depth -/
def cAsk (d : Nat) : Ctr := cdet [tAr, .sl I, I, I] (fun (a : Ar) (p : List Int) (k o : Int) => AskOk d a p k o) (fun (a : Ar) (p : List Int) (k o : Int) => [⟨.sl I, askF a k.toNat p o⟩])
def oAsk (d : Nat) : OCtr := fun args ob k => ∃ (a : Ar) (p : List Int) (i o : Int), args = [.d tAr a, .d (.sl I) p, .d I i, .d I o] ∧ ob = [] ∧ AskOk d a p i o ∧ k (.os 0) [.row 3 I (askF a i.toNat p o)]
/-- what a state's row holds -/
def withRow (st : St) (i : Nat) (f : List Int → List Ob) : List Ob :=
  match st.ob.getD i .dead with
  | .row _ (.int _) xs => f xs
  | _ => []
def gotR (a : Ar) (p : List Int) (o : Int) : List Int := gotL a p o (bitsOf (restN a.1 p : Int))
def lR (a : Ar) (p : List Int) (i o j : Int) : List Int := askF a (i.toNat - 1) (p ++ [j]) ((gotR a p o).getD j.toNat 0)
def yesR (a : Ar) (p : List Int) (i o : Int) (x : List Int) : List Int := yesL a.1 (restN a.1 p) (lR a p i o) x
def outR (a : Ar) (p : List Int) (i o : Int) (x : List Int) : List Int := outL a.1 (popN (restN a.1 p) : Int) (yesR a p i o (bitsOf (restN a.1 p : Int))) (gotR a p o) x
def anAsk (a : Ar) (p : List Int) (i o : Int) : Ann :=
  [loopAt 4 Nat [] (fun st k => St.at (St.only st [4, 5, 6, 7, 9, 25, 26]) [(10, .d I (onN (p.take k) : Int)), (27, .d I (k : Int))]) (fun _ k => k ≤ p.length ∧ True) (fun k => p.length - k),
   meetAt 9 Nat [] (fun st _ => { St.at (St.only st [4, 5, 6, 7, 9]) [(13, .pv I 6 [])] with ob := st.ob ++ [.var 3 I (restN a.1 p : Int)] }) (fun _ _ => True),
   rangeAt 11 I (List Int) id (fun st x => { St.only st [4, 5, 6, 7, 9, 13, 43] with ob := st.ob.set 4 (.row 3 I (gotL a p o x)) }) (fun _ _ => True),
   meetAt 12 Nat [] (fun st _ => { St.only st [4, 5, 6, 7, 9, 13] with ob := st.ob.set 4 (.row 3 I (gotR a p o)) }) (fun _ _ => True),
   rangeAt 18 I (List Int) id (fun st x => { St.only st [4, 5, 6, 7, 9, 13, 15, 16, 63] with ob := st.ob.set 9 (.row 3 I (yesR a p i o x)) }) (fun _ _ => True),
   rangeAt 21 I (List Int) id (fun st x => { St.only st [4, 5, 6, 7, 9, 13, 15, 16, 17, 18, 63, 86] with ob := withRow st 9 fun y => st.ob.set 9 (.row 3 I (incL (lR a p i o (st.i 17)) y x)) }) (fun _ _ => True),
   meetAt 22 Nat [] (fun st _ => { St.only st [4, 5, 6, 7, 9, 13, 15, 16] with ob := st.ob.set 9 (.row 3 I (yesR a p i o (bitsOf (restN a.1 p : Int)))) }) (fun _ _ => True),
   rangeAt 25 I (List Int) id (fun st x => { St.only st [4, 5, 6, 7, 9, 13, 15, 16, 20, 101] with ob := st.ob.set 7 (.row 3 I (outR a p i o x)) }) (fun _ _ => True)]
end Go.Proofs.YtlopkkoenfngiaaDoor

/- What the functions of this seat have to satisfy, by program: each verification condition in plain words. -/
namespace Go.Proofs.YtlopkkoenfngiaaDoor
open Go.Vc
set_option linter.unusedVariables false
theorem vcWithin (a b c : Int) (k : List Dat → Prop) : vcF ⟨Et, [], glT, [], []⟩ [] (Tryd.f39.body.getD .skip) Tryd.f39.ntmps [(.tmp 6, .bool)] [⟨I, a⟩, ⟨I, b⟩, ⟨I, c⟩] k = (
  (decide (b ≤ a) = true → k [Dat.mk Ty.bool (decide (a ≤ c))]) ∧ (decide (b ≤ a) = false → k [Dat.mk Ty.bool false])) := by kernel_rfl
theorem vcPow2 (n : Int) (k : List Dat → Prop) : vcF ⟨Et, [], glT, [], []⟩ (anPow2 n) (Tryd.f14.body.getD .skip) Tryd.f14.ntmps [(.tmp 2, I)] [⟨I, n⟩] k = (
  (∃ (x : Nat), (x ≤ n.toNat ∧ True) ∧ (n = n ∧ (0 : Int) = (0 : Int) ∧ (1 : Int) = (2 : Int) ^ x ∧ (0 : Int) = (↑x : Int) ∧ True) ∧ True ∧ tabD = tabD ∧ True) ∧ ∀ (x : Nat), x ≤ n.toNat ∧ True → (decide ((↑x : Int) < n) = true → inK IntKind.i64 ((2 : Int) ^ x * (2 : Int)) ∧ inK IntKind.i64 ((↑x : Int) + (1 : Int)) ∧ ∃ (x_1 : Nat), (x_1 ≤ n.toNat ∧ True) ∧ n.toNat - x_1 < n.toNat - x ∧ (n = n ∧ (0 : Int) = (0 : Int) ∧ (2 : Int) ^ x * (2 : Int) = (2 : Int) ^ x_1 ∧ (↑x : Int) + (1 : Int) = (↑x_1 : Int) ∧ True) ∧ True ∧ tabD = tabD ∧ True) ∧ (decide ((↑x : Int) < n) = false → k [Dat.mk (I) ((2 : Int) ^ x)])) := by kernel_rfl
theorem vcBit (s i : Int) (k : List Dat → Prop) : vcF ⟨Et, [], glT, [], []⟩ (anBit s i) (Tryd.f35.body.getD .skip) Tryd.f35.ntmps [(.tmp 4, .bool)] [⟨I, s⟩, ⟨I, i⟩] k = (
  (∃ (x : Nat), (x ≤ i.toNat ∧ True) ∧ (s = s.tdiv ((2 : Int) ^ x) ∧ i = i ∧ false = false ∧ (0 : Int) = (↑x : Int) ∧ True) ∧ True ∧ tabD = tabD ∧ True) ∧ ∀ (x : Nat), x ≤ i.toNat ∧ True → (decide ((↑x : Int) < i) = true → ((!decide (s.tdiv ((2 : Int) ^ x) = (0 : Int))) = true → (2 : Int) ≠ (0 : Int) ∧ inK IntKind.i64 ((s.tdiv ((2 : Int) ^ x)).tdiv (2 : Int)) ∧ inK IntKind.i64 ((↑x : Int) + (1 : Int)) ∧ ∃ (x_1 : Nat), (x_1 ≤ i.toNat ∧ True) ∧ i.toNat - x_1 < i.toNat - x ∧ ((s.tdiv ((2 : Int) ^ x)).tdiv (2 : Int) = s.tdiv ((2 : Int) ^ x_1) ∧ i = i ∧ false = false ∧ (↑x : Int) + (1 : Int) = (↑x_1 : Int) ∧ True) ∧ True ∧ tabD = tabD ∧ True) ∧ ((!decide (s.tdiv ((2 : Int) ^ x) = (0 : Int))) = false → (2 : Int) ≠ (0 : Int) ∧ inK IntKind.i64 ((s.tdiv ((2 : Int) ^ x)).tmod (2 : Int)) ∧ k [Dat.mk Ty.bool (decide ((s.tdiv ((2 : Int) ^ x)).tmod (2 : Int) = (1 : Int)))])) ∧ (decide ((↑x : Int) < i) = false → (2 : Int) ≠ (0 : Int) ∧ inK IntKind.i64 ((s.tdiv ((2 : Int) ^ x)).tmod (2 : Int)) ∧ k [Dat.mk Ty.bool (decide ((s.tdiv ((2 : Int) ^ x)).tmod (2 : Int) = (1 : Int)))])) := by kernel_rfl
theorem vcSub (a b : Int) (k : List Dat → Prop) : vcF ⟨Et, [], glT, [], []⟩ (anSub a b) (Tryd.f16.body.getD .skip) Tryd.f16.ntmps [(.tmp 4, .bool)] [⟨I, a⟩, ⟨I, b⟩] k = (
  (∃ (x : Int × Int), (subB a b = subB x.fst x.snd ∧ inK IntKind.i64 x.fst ∧ inK IntKind.i64 x.snd) ∧ (a = x.fst ∧ b = x.snd ∧ false = false ∧ True) ∧ True ∧ tabD = tabD ∧ True) ∧ ∀ (x : Int × Int), subB a b = subB x.fst x.snd ∧ inK IntKind.i64 x.fst ∧ inK IntKind.i64 x.snd → (decide ((0 : Int) < x.fst) = true → (2 : Int) ≠ (0 : Int) ∧ inK IntKind.i64 (x.fst.tmod (2 : Int)) ∧ (decide (x.fst.tmod (2 : Int) = (1 : Int)) = true → (2 : Int) ≠ (0 : Int) ∧ inK IntKind.i64 (x.snd.tmod (2 : Int)) ∧ (decide (x.snd.tmod (2 : Int) = (0 : Int)) = true → k [Dat.mk Ty.bool false]) ∧ (decide (x.snd.tmod (2 : Int) = (0 : Int)) = false → (2 : Int) ≠ (0 : Int) ∧ inK IntKind.i64 (x.fst.tdiv (2 : Int)) ∧ (2 : Int) ≠ (0 : Int) ∧ inK IntKind.i64 (x.snd.tdiv (2 : Int)) ∧ ∃ (x_1 : Int × Int), (subB a b = subB x_1.fst x_1.snd ∧ inK IntKind.i64 x_1.fst ∧ inK IntKind.i64 x_1.snd) ∧ x_1.fst.toNat < x.fst.toNat ∧ (x.fst.tdiv (2 : Int) = x_1.fst ∧ x.snd.tdiv (2 : Int) = x_1.snd ∧ false = false ∧ True) ∧ True ∧ tabD = tabD ∧ True)) ∧ (decide (x.fst.tmod (2 : Int) = (1 : Int)) = false → (2 : Int) ≠ (0 : Int) ∧ inK IntKind.i64 (x.fst.tdiv (2 : Int)) ∧ (2 : Int) ≠ (0 : Int) ∧ inK IntKind.i64 (x.snd.tdiv (2 : Int)) ∧ ∃ (x_1 : Int × Int), (subB a b = subB x_1.fst x_1.snd ∧ inK IntKind.i64 x_1.fst ∧ inK IntKind.i64 x_1.snd) ∧ x_1.fst.toNat < x.fst.toNat ∧ (x.fst.tdiv (2 : Int) = x_1.fst ∧ x.snd.tdiv (2 : Int) = x_1.snd ∧ false = false ∧ True) ∧ True ∧ tabD = tabD ∧ True)) ∧ (decide ((0 : Int) < x.fst) = false → k [Dat.mk Ty.bool true])) := by kernel_rfl
theorem vcInts (a b : List Int) (k : List Dat → Prop) : vcF ⟨Et, [], glT, [], []⟩ (anInts a b) (Tryd.f29.body.getD .skip) Tryd.f29.ntmps [(.tmp 4, .bool)] [⟨.sl I, a⟩, ⟨.sl I, b⟩] k = (
  ((!decide ((↑a.length : Int) = (↑b.length : Int))) = true → k [Dat.mk Ty.bool false]) ∧ ((!decide ((↑a.length : Int) = (↑b.length : Int))) = false → (∃ (x : Nat), (x ≤ a.length ∧ List.take x a = List.take x b) ∧ (a = a ∧ b = b ∧ false = false ∧ (0 : Int) = (↑x : Int) ∧ a = a ∧ (↑a.length : Int) = (↑a.length : Int) ∧ b = b ∧ (↑b.length : Int) = (↑b.length : Int) ∧ (!decide ((↑a.length : Int) = (↑b.length : Int))) = !decide ((↑a.length : Int) = (↑b.length : Int)) ∧ True) ∧ True ∧ tabD = tabD ∧ True) ∧ ∀ (x : Nat), x ≤ a.length ∧ List.take x a = List.take x b → (decide ((↑x : Int) < (↑a.length : Int)) = true → (0 : Int) ≤ (↑x : Int) ∧ (↑x : Int) < (↑a.length : Int) ∧ (0 : Int) ≤ (↑x : Int) ∧ (↑x : Int) < (↑b.length : Int) ∧ ((!decide (a.getD (↑x : Int).toNat (0 : Int) = b.getD (↑x : Int).toNat (0 : Int))) = true → k [Dat.mk Ty.bool false]) ∧ ((!decide (a.getD (↑x : Int).toNat (0 : Int) = b.getD (↑x : Int).toNat (0 : Int))) = false → inK IntKind.i64 ((↑x : Int) + (1 : Int)) ∧ ∃ (x_1 : Nat), (x_1 ≤ a.length ∧ List.take x_1 a = List.take x_1 b) ∧ a.length - x_1 < a.length - x ∧ (a = a ∧ b = b ∧ false = false ∧ (↑x : Int) + (1 : Int) = (↑x_1 : Int) ∧ a = a ∧ (↑a.length : Int) = (↑a.length : Int) ∧ b = b ∧ (↑b.length : Int) = (↑b.length : Int) ∧ (!decide ((↑a.length : Int) = (↑b.length : Int))) = !decide ((↑a.length : Int) = (↑b.length : Int)) ∧ True) ∧ True ∧ tabD = tabD ∧ True)) ∧ (decide ((↑x : Int) < (↑a.length : Int)) = false → k [Dat.mk Ty.bool true]))) := by kernel_rfl
end Go.Proofs.YtlopkkoenfngiaaDoor

/- Quorums: the small functions keep their contracts. -/
namespace Go.Proofs.YtlopkkoenfngiaaDoor
open Go.Vc
theorem mixed : Tryd.prog.follows .mixedOrders = true := by kernel_rfl
theorem okWithin : PlainOk Tryd.prog glT 39 cWithin := by
  refine plain_of (CxOk.mk' Et_ok rfl mixed (gl := glT) GOk.nil GoOk.nil noIt) Tryd.func39 (c := Tryd.f39.body.getD .skip) (rvs := [(.tmp 6, .bool)]) (by kernel_rfl) (by kernel_rfl) (by kernel_rfl) ?_
  intro ds k ⟨hp, hk⟩ hwf
  obtain ⟨a, b, c, rfl, -⟩ := dest3 hp
  have hk : k [⟨.bool, inB a b c⟩] := hk
  refine ⟨[], ?_⟩
  rw [vcWithin]
  unfold inB at hk
  refine ⟨fun h => ?_, fun h => ?_⟩ <;> simpa [h] using hk
theorem two_pow_le {n : Nat} (h : n ≤ 62) : (2 : Int) ^ n ≤ 4611686018427387904 := by
  have : 2 ^ n ≤ 2 ^ 62 := Nat.pow_le_pow_right (by decide) h
  have h2 : ((2 ^ n : Nat) : Int) ≤ ((2 ^ 62 : Nat) : Int) := Int.ofNat_le.2 this
  rw [Int.natCast_pow] at h2
  exact h2
theorem two_pow_pos (n : Nat) : (0 : Int) < (2 : Int) ^ n := Int.pow_pos (by decide)
theorem okPow2 : PlainOk Tryd.prog glT 14 cPow2 := by
  refine plain_of (CxOk.mk' Et_ok rfl mixed (gl := glT) GOk.nil GoOk.nil noIt) Tryd.func14 (c := Tryd.f14.body.getD .skip) (rvs := [(.tmp 2, I)]) (by kernel_rfl) (by kernel_rfl) (by kernel_rfl) ?_
  intro ds k ⟨hp, hk⟩ hwf
  obtain ⟨n, rfl, hn, -⟩ := dest1 hp
  have hk : k [⟨I, (2 : Int) ^ n.toNat⟩] := hk
  refine ⟨anPow2 n, ?_⟩
  rw [vcPow2]
  simp only [decide_eq_true_eq, decide_eq_false_iff_not, inK_i64, and_true, true_and]
  refine ⟨⟨0, by omega, rfl, rfl⟩, fun x hx => ⟨fun h => ?_, fun h => ?_⟩⟩
  · have h1 := two_pow_le (n := x + 1) (by omega)
    have h2 := two_pow_pos (x + 1)
    rw [Int.pow_succ] at h1 h2
    refine ⟨by omega, by omega, x + 1, by omega, by omega, by rw [Int.pow_succ], by omega⟩
  · have : x = n.toNat := by omega
    rw [this]; exact hk
theorem tdivN (n x : Nat) : (n : Int).tdiv ((2 : Int) ^ x) = ((n / 2 ^ x : Nat) : Int) := by
  rw [show (2 : Int) ^ x = ((2 ^ x : Nat) : Int) by rw [Int.natCast_pow]; rfl, ← Int.ofNat_tdiv]
theorem tdiv_pow (s : Int) (x : Nat) : (s.tdiv ((2 : Int) ^ x)).tdiv 2 = s.tdiv ((2 : Int) ^ (x + 1)) := by
  have key : ∀ n : Nat, ((n : Int).tdiv ((2 : Int) ^ x)).tdiv 2 = (n : Int).tdiv ((2 : Int) ^ (x + 1)) := by
    intro n
    rw [tdivN, tdivN, Nat.pow_succ, ← Nat.div_div_eq_div_mul]
    have := tdivN (n / 2 ^ x) 1
    simpa using this
  rcases Int.le_total 0 s with h | h
  · obtain ⟨n, rfl⟩ := Int.eq_ofNat_of_zero_le h
    exact key n
  · obtain ⟨n, hn⟩ := Int.eq_ofNat_of_zero_le (show 0 ≤ -s by omega)
    have e : s = -(n : Int) := by omega
    rw [e, Int.neg_tdiv, Int.neg_tdiv, Int.neg_tdiv, key]
theorem bit_of {s : Int} {x : Nat} : decide ((s.tdiv ((2 : Int) ^ x)).tmod 2 = 1) = bitB s x := by
  unfold bitB
  by_cases h : 0 ≤ s
  · obtain ⟨n, rfl⟩ := Int.eq_ofNat_of_zero_le h
    have e : ((n : Int).tdiv ((2 : Int) ^ x)).tmod 2 = ((n / 2 ^ x % 2 : Nat) : Int) := by
      rw [show (2 : Int) ^ x = ((2 ^ x : Nat) : Int) by rw [Int.natCast_pow]; rfl, ← Int.ofNat_tdiv]
      exact (Int.ofNat_tmod _ 2).symm
    rw [e]
    simp only [h, decide_true, Bool.true_and, Int.toNat_natCast]
    rw [Nat.testBit_eq_decide_div_mod_eq]
    apply decide_eq_decide.2
    exact ⟨fun h => by exact_mod_cast h, fun h => by exact_mod_cast h⟩
  · have hd : decide (0 ≤ s) = false := by simpa using h
    rw [hd, Bool.false_and]
    have hle : s.tdiv ((2 : Int) ^ x) ≤ 0 := by
      have := Int.tdiv_nonneg (a := -s) (b := (2 : Int) ^ x) (by omega) (Int.le_of_lt (two_pow_pos x))
      rw [Int.neg_tdiv] at this; omega
    simp only [decide_eq_false_iff_not]
    intro hc
    have h2 := Int.tmod_nonneg (a := -(s.tdiv ((2 : Int) ^ x))) 2 (by omega)
    rw [Int.neg_tmod] at h2
    omega
theorem tdiv_in {s : Int} (h : inK .i64 s) (x : Nat) : inK .i64 (s.tdiv ((2 : Int) ^ x)) ∧ inK .i64 ((s.tdiv ((2 : Int) ^ x)).tmod 2) := by
  rw [inK_i64] at h
  have key : ∀ n : Nat, ((n : Int).tdiv ((2 : Int) ^ x)) ≤ n ∧ 0 ≤ ((n : Int).tdiv ((2 : Int) ^ x)) := by
    intro n
    rw [tdivN]
    have h := Nat.div_le_self n (2 ^ x)
    generalize n / 2 ^ x = q at h
    omega
  have hb : -9223372036854775808 ≤ s.tdiv ((2 : Int) ^ x) ∧ s.tdiv ((2 : Int) ^ x) ≤ 9223372036854775807 := by
    rcases Int.le_total 0 s with h0 | h0
    · obtain ⟨n, rfl⟩ := Int.eq_ofNat_of_zero_le h0
      have := key n; omega
    · obtain ⟨n, hn⟩ := Int.eq_ofNat_of_zero_le (show 0 ≤ -s by omega)
      have e : s = -(n : Int) := by omega
      have := key n
      rw [e, Int.neg_tdiv]; omega
  refine ⟨inK_i64.2 hb, inK_i64.2 ?_⟩
  generalize s.tdiv ((2 : Int) ^ x) = q at hb
  have := Int.tmod_two_eq q
  omega
theorem okBit : PlainOk Tryd.prog glT 35 cBit := by
  refine plain_of (CxOk.mk' Et_ok rfl mixed (gl := glT) GOk.nil GoOk.nil noIt) Tryd.func35 (c := Tryd.f35.body.getD .skip) (rvs := [(.tmp 4, .bool)]) (by kernel_rfl) (by kernel_rfl) (by kernel_rfl) ?_
  intro ds k ⟨hp, hk⟩ hwf
  obtain ⟨s, i, rfl, -⟩ := dest2 hp
  have hk : k [⟨.bool, bitB s i⟩] := hk
  have hs : inK .i64 s := (wf2 hwf).1
  have hi := inK_i64.1 ((wf2 hwf).2 : inK .i64 i)
  refine ⟨anBit s i, ?_⟩
  rw [vcBit]
  simp only [decide_eq_true_eq, decide_eq_false_iff_not, and_true, true_and, Bool.not_eq_true', Bool.not_eq_false', ne_eq]
  have ret : ∀ x : Nat, bitB s x = bitB s i → k [⟨.bool, decide ((s.tdiv ((2 : Int) ^ x)).tmod 2 = 1)⟩] := by
    intro x hx; rw [bit_of, hx]; exact hk
  refine ⟨⟨0, by omega, by simp, rfl⟩, fun x hx => ⟨fun h => ⟨fun h0 => ⟨by decide, ?_, by rw [inK_i64]; omega, x + 1, by omega, by omega, tdiv_pow s x, by omega⟩, fun h0 => ⟨by decide, (tdiv_in hs x).2, ret x ?_⟩⟩, fun h => ⟨by decide, (tdiv_in hs x).2, ret x ?_⟩⟩⟩
  · rw [tdiv_pow]; exact (tdiv_in hs (x + 1)).1
  · unfold bitB
    by_cases hs0 : 0 ≤ s
    · obtain ⟨n, hn⟩ := Int.eq_ofNat_of_zero_le hs0
      rw [hn, tdivN] at h0
      have h0' : n / 2 ^ x = 0 := by exact_mod_cast h0
      have hlt : n < 2 ^ x := by
        rcases Nat.lt_or_ge n (2 ^ x) with h | h
        · exact h
        · have := Nat.div_pos h (Nat.two_pow_pos x); omega
      have hf : ∀ j, x ≤ j → n.testBit j = false := fun j hj => Nat.testBit_lt_two_pow (Nat.lt_of_lt_of_le hlt (Nat.pow_le_pow_right (by decide) hj))
      have e1 : s.toNat = n := by rw [hn]; rfl
      rw [e1, hf _ (by rw [Int.toNat_natCast]; exact Nat.le_refl _), hf _ (by omega)]
    · have : decide (0 ≤ s) = false := by simpa using hs0
      rw [this]; rfl
  · have : (x : Int).toNat = i.toNat := by omega
    unfold bitB; rw [this]
theorem subN_fuel : ∀ (f g a : Nat) (b : Int), a ≤ f → a ≤ g → subN f a b = subN g a b := by
  intro f
  induction f with
  | zero =>
    intro g a b h1 h2
    have : a = 0 := by omega
    subst this
    cases g <;> simp [subN]
  | succ f ih =>
    intro g a b h1 h2
    cases g with
    | zero =>
      have : a = 0 := by omega
      subst this
      simp [subN]
    | succ g =>
      unfold subN
      by_cases h : a = 0
      · simp [h]
      · rw [if_neg h, if_neg h, ih g (a / 2) (b.tdiv 2) (by omega) (by omega)]
theorem subB_pos {a b : Int} (h : 0 < a) : subB a b = if a.tmod 2 = 1 ∧ b.tmod 2 = 0 then false else subB (a.tdiv 2) (b.tdiv 2) := by
  obtain ⟨n, rfl⟩ := Int.eq_ofNat_of_zero_le (Int.le_of_lt h)
  have hn : 0 < n := by omega
  have e1 : ((n : Int).tdiv 2) = ((n / 2 : Nat) : Int) := by simp
  have e2 : ((n : Int).tmod 2 = 1) ↔ n % 2 = 1 := by
    have : (n : Int).tmod 2 = ((n % 2 : Nat) : Int) := (Int.ofNat_tmod n 2).symm
    rw [this]; omega
  rw [e1]
  unfold subB
  simp only [Int.toNat_natCast, e2]
  obtain ⟨m, rfl⟩ : ∃ m, n = m + 1 := ⟨n - 1, by omega⟩
  rw [subN, if_neg (by omega)]
  rw [subN_fuel m ((m + 1) / 2) ((m + 1) / 2) _ (by omega) (Nat.le_refl _)]
theorem subB_neg {a b : Int} (h : ¬ 0 < a) : subB a b = true := by
  unfold subB
  have : a.toNat = 0 := by omega
  rw [this]; rfl
theorem half_in {q : Int} (h : inK .i64 q) : inK .i64 (q.tmod 2) ∧ inK .i64 (q.tdiv 2) := by
  have h1 := tdiv_in h 0
  have h2 := tdiv_in h 1
  simp only [Int.pow_zero, Int.tdiv_one] at h1
  rw [Int.pow_succ, Int.pow_zero, Int.one_mul] at h2
  exact ⟨h1.2, h2.1⟩
theorem okSub : PlainOk Tryd.prog glT 16 cSub := by
  refine plain_of (CxOk.mk' Et_ok rfl mixed (gl := glT) GOk.nil GoOk.nil noIt) Tryd.func16 (c := Tryd.f16.body.getD .skip) (rvs := [(.tmp 4, .bool)]) (by kernel_rfl) (by kernel_rfl) (by kernel_rfl) ?_
  intro ds k ⟨hp, hk⟩ hwf
  obtain ⟨a, b, rfl, -⟩ := dest2 hp
  have hk : k [⟨.bool, subB a b⟩] := hk
  have ha : inK .i64 a := (wf2 hwf).1
  have hb : inK .i64 b := (wf2 hwf).2
  refine ⟨anSub a b, ?_⟩
  rw [vcSub]
  simp only [decide_eq_true_eq, decide_eq_false_iff_not, and_true, true_and, ne_eq]
  have ret : ∀ x : Bool, subB a b = x → k [⟨.bool, x⟩] := by rintro _ rfl; exact hk
  have h20 : ¬ (2 : Int) = 0 := by decide
  refine ⟨⟨(a, b), ⟨rfl, ha, hb⟩, rfl, rfl⟩, fun x ⟨h1, h2, h3⟩ => ⟨fun h => ?_, fun h => ret _ (by rw [h1, subB_neg h])⟩⟩
  have hst := subB_pos (b := x.2) h
  have hlt : (x.1.tdiv 2).toNat < x.1.toNat := by
    obtain ⟨n, hn⟩ := Int.eq_ofNat_of_zero_le (Int.le_of_lt h)
    have e1 : (x.1.tdiv 2) = ((n / 2 : Nat) : Int) := by rw [hn]; simp
    rw [e1]; omega
  refine ⟨h20, (half_in h2).1, fun h4 => ⟨h20, (half_in h3).1, fun h5 => ret _ (by rw [h1, hst, if_pos ⟨h4, h5⟩]), fun h5 => ⟨h20, (half_in h2).2, h20, (half_in h3).2, (x.1.tdiv 2, x.2.tdiv 2), ⟨by rw [h1, hst, if_neg (fun h => h5 h.2)], (half_in h2).2, (half_in h3).2⟩, hlt, rfl, rfl⟩⟩,
    fun h4 => ⟨h20, (half_in h2).2, h20, (half_in h3).2, (x.1.tdiv 2, x.2.tdiv 2), ⟨by rw [h1, hst, if_neg (fun h => h4 h.1)], (half_in h2).2, (half_in h3).2⟩, hlt, rfl, rfl⟩⟩
theorem ints_vc (a b : List Int) (k : List Dat → Prop) (hl : a.length ≤ maxLen) (hk : k [⟨.bool, a == b⟩]) : vcF ⟨Et, [], glT, [], []⟩ (anInts a b) (Tryd.f29.body.getD .skip) Tryd.f29.ntmps [(.tmp 4, .bool)] [⟨.sl I, a⟩, ⟨.sl I, b⟩] k := by
  rw [vcInts]
  have hml : maxLen ≤ 9223372036854775807 := by decide
  simp only [decide_eq_true_eq, decide_eq_false_iff_not, and_true, true_and, Bool.not_eq_true', Bool.not_eq_false', Int.toNat_natCast, inK_i64]
  have ret : ∀ x : Bool, (a == b) = x → k [⟨.bool, x⟩] := by rintro _ rfl; exact hk
  refine ⟨fun h => ret _ ?_, fun h => ⟨⟨0, ⟨by omega, rfl⟩, rfl⟩, fun x ⟨hx, ht⟩ => ⟨fun hlt => ⟨by omega, hlt, by omega, by omega, fun hne => ret _ ?_, fun he => ⟨by omega, x + 1, ⟨by omega, ?_⟩, by omega, by omega⟩⟩, fun hge => ret _ ?_⟩⟩⟩
  · simp only [beq_eq_false_iff_ne, ne_eq]; intro he; exact h (by rw [he])
  · simp only [beq_eq_false_iff_ne, ne_eq]; intro h; exact hne (by rw [h])
  · have h1 : x < a.length := by omega
    have h2 : x < b.length := by omega
    rw [List.take_add_one, List.take_add_one, ht]
    rw [List.getD_eq_getElem?_getD, List.getD_eq_getElem?_getD, List.getElem?_eq_getElem h1, List.getElem?_eq_getElem h2] at he
    rw [List.getElem?_eq_getElem h1, List.getElem?_eq_getElem h2]
    simp only [Option.getD_some] at he
    rw [he]
  · have h1 : x = a.length := by omega
    rw [h1, List.take_length, List.take_of_length_le (by omega)] at ht
    simp [ht]
theorem okInts : PlainOk Tryd.prog glT 29 cInts := by
  refine plain_of (CxOk.mk' Et_ok rfl mixed (gl := glT) GOk.nil GoOk.nil noIt) Tryd.func29 (c := Tryd.f29.body.getD .skip) (rvs := [(.tmp 4, .bool)]) (by kernel_rfl) (by kernel_rfl) (by kernel_rfl) ?_
  intro ds k ⟨hp, hk⟩ hwf
  obtain ⟨a, b, rfl, -⟩ := dest2 hp
  exact ⟨anInts a b, ints_vc a b k (wf2 hwf).1.1 hk⟩
theorem bit_or2 {a j k : Nat} : (a ||| 2 ^ j).testBit k = true ↔ a.testBit k = true ∨ k = j := by
  rw [Nat.testBit_or, Nat.testBit_two_pow, Bool.or_eq_true, decide_eq_true_eq]
  exact ⟨fun h => h.imp id Eq.symm, fun h => h.imp id Eq.symm⟩
theorem tb_succ (a k : Nat) : a.testBit (k + 1) = (a / 2).testBit k := Nat.testBit_succ a k
theorem tb_zero (a : Nat) : a.testBit 0 = decide (a % 2 = 1) := Nat.testBit_zero a

theorem subN_iff : ∀ (f a b : Nat), a ≤ f → (subN f a (b : Int) = true ↔ ∀ k, a.testBit k = true → b.testBit k = true) := by
  intro f
  induction f with
  | zero =>
    intro a b h
    have : a = 0 := by omega
    subst this
    simp [subN]
  | succ f ih =>
    intro a b h
    unfold subN
    by_cases h0 : a = 0
    · subst h0; simp
    · rw [if_neg h0]
      have e1 : (b : Int).tmod 2 = ((b % 2 : Nat) : Int) := (Int.ofNat_tmod b 2).symm
      have e2 : (b : Int).tdiv 2 = ((b / 2 : Nat) : Int) := (Int.ofNat_tdiv b 2).symm
      rw [e1, e2]
      by_cases hc : a % 2 = 1 ∧ ((b % 2 : Nat) : Int) = 0
      · rw [if_pos hc]
        simp only [Bool.false_eq_true, false_iff]
        intro hall
        have := hall 0 (by rw [tb_zero]; simp [hc.1])
        rw [tb_zero, decide_eq_true_eq] at this
        have := hc.2
        omega
      · rw [if_neg hc, ih (a / 2) (b / 2) (by omega)]
        constructor
        · intro hall k hk
          cases k with
          | zero =>
            rw [tb_zero, decide_eq_true_eq] at hk
            rw [tb_zero, decide_eq_true_eq]
            rcases Nat.mod_two_eq_zero_or_one b with hb | hb
            · exact absurd ⟨hk, by rw [hb]; rfl⟩ hc
            · exact hb
          | succ k => rw [tb_succ] at hk ⊢; exact hall k hk
        · intro hall k hk
          rw [← tb_succ] at hk ⊢
          exact hall (k + 1) hk

theorem subB_iff (a b : Nat) : subB (a : Int) (b : Int) = true ↔ ∀ k, a.testBit k = true → b.testBit k = true := subN_iff a a b (Nat.le_refl _)
theorem bitB_nat (a k : Nat) : bitB (a : Int) (k : Int) = a.testBit k := by
  unfold bitB
  simp
end Go.Proofs.YtlopkkoenfngiaaDoor

/- What the functions of this seat have to satisfy, by program: each verification condition in plain words. -/
namespace Go.Proofs.YtlopkkoenfngiaaDoor
open Go.Vc
set_option linter.unusedVariables false
theorem vcBoth (a b : Int) (k : List Dat → Prop) : vcF ⟨Et, [], glT, [], []⟩ (anBoth a b) (Tryd.f15.body.getD .skip) Tryd.f15.ntmps [(.tmp 4, I)] [⟨I, a⟩, ⟨I, b⟩] k = (
  (∃ (x : Nat), (x ≤ (61 : Nat) ∧ True) ∧ (a = a.tdiv ((2 : Int) ^ x) ∧ b = b.tdiv ((2 : Int) ^ x) ∧ (0 : Int) = (0 : Int) ∧ (0 : Int) = (↑((a.toNat &&& b.toNat) % (2 : Nat) ^ x) : Int) ∧ (1 : Int) = (2 : Int) ^ x ∧ True) ∧ True ∧ tabD = tabD ∧ True) ∧ ∀ (x : Nat), x ≤ (61 : Nat) ∧ True → (decide ((0 : Int) < a.tdiv ((2 : Int) ^ x)) = true → (decide ((0 : Int) < b.tdiv ((2 : Int) ^ x)) = true → (2 : Int) ≠ (0 : Int) ∧ inK IntKind.i64 ((a.tdiv ((2 : Int) ^ x)).tmod (2 : Int)) ∧ (decide ((a.tdiv ((2 : Int) ^ x)).tmod (2 : Int) = (1 : Int)) = true → (2 : Int) ≠ (0 : Int) ∧ inK IntKind.i64 ((b.tdiv ((2 : Int) ^ x)).tmod (2 : Int)) ∧ (decide ((b.tdiv ((2 : Int) ^ x)).tmod (2 : Int) = (1 : Int)) = true → inK IntKind.i64 ((↑((a.toNat &&& b.toNat) % (2 : Nat) ^ x) : Int) + (2 : Int) ^ x) ∧ (2 : Int) ≠ (0 : Int) ∧ inK IntKind.i64 ((a.tdiv ((2 : Int) ^ x)).tdiv (2 : Int)) ∧ (2 : Int) ≠ (0 : Int) ∧ inK IntKind.i64 ((b.tdiv ((2 : Int) ^ x)).tdiv (2 : Int)) ∧ inK IntKind.i64 ((2 : Int) ^ x * (2 : Int)) ∧ ∃ (x_1 : Nat), (x_1 ≤ (61 : Nat) ∧ True) ∧ (62 : Nat) - x_1 < (62 : Nat) - x ∧ ((a.tdiv ((2 : Int) ^ x)).tdiv (2 : Int) = a.tdiv ((2 : Int) ^ x_1) ∧ (b.tdiv ((2 : Int) ^ x)).tdiv (2 : Int) = b.tdiv ((2 : Int) ^ x_1) ∧ (0 : Int) = (0 : Int) ∧ (↑((a.toNat &&& b.toNat) % (2 : Nat) ^ x) : Int) + (2 : Int) ^ x = (↑((a.toNat &&& b.toNat) % (2 : Nat) ^ x_1) : Int) ∧ (2 : Int) ^ x * (2 : Int) = (2 : Int) ^ x_1 ∧ True) ∧ True ∧ tabD = tabD ∧ True) ∧ (decide ((b.tdiv ((2 : Int) ^ x)).tmod (2 : Int) = (1 : Int)) = false → (2 : Int) ≠ (0 : Int) ∧ inK IntKind.i64 ((a.tdiv ((2 : Int) ^ x)).tdiv (2 : Int)) ∧ (2 : Int) ≠ (0 : Int) ∧ inK IntKind.i64 ((b.tdiv ((2 : Int) ^ x)).tdiv (2 : Int)) ∧ inK IntKind.i64 ((2 : Int) ^ x * (2 : Int)) ∧ ∃ (x_1 : Nat), (x_1 ≤ (61 : Nat) ∧ True) ∧ (62 : Nat) - x_1 < (62 : Nat) - x ∧ ((a.tdiv ((2 : Int) ^ x)).tdiv (2 : Int) = a.tdiv ((2 : Int) ^ x_1) ∧ (b.tdiv ((2 : Int) ^ x)).tdiv (2 : Int) = b.tdiv ((2 : Int) ^ x_1) ∧ (0 : Int) = (0 : Int) ∧ (↑((a.toNat &&& b.toNat) % (2 : Nat) ^ x) : Int) = (↑((a.toNat &&& b.toNat) % (2 : Nat) ^ x_1) : Int) ∧ (2 : Int) ^ x * (2 : Int) = (2 : Int) ^ x_1 ∧ True) ∧ True ∧ tabD = tabD ∧ True)) ∧ (decide ((a.tdiv ((2 : Int) ^ x)).tmod (2 : Int) = (1 : Int)) = false → (2 : Int) ≠ (0 : Int) ∧ inK IntKind.i64 ((a.tdiv ((2 : Int) ^ x)).tdiv (2 : Int)) ∧ (2 : Int) ≠ (0 : Int) ∧ inK IntKind.i64 ((b.tdiv ((2 : Int) ^ x)).tdiv (2 : Int)) ∧ inK IntKind.i64 ((2 : Int) ^ x * (2 : Int)) ∧ ∃ (x_1 : Nat), (x_1 ≤ (61 : Nat) ∧ True) ∧ (62 : Nat) - x_1 < (62 : Nat) - x ∧ ((a.tdiv ((2 : Int) ^ x)).tdiv (2 : Int) = a.tdiv ((2 : Int) ^ x_1) ∧ (b.tdiv ((2 : Int) ^ x)).tdiv (2 : Int) = b.tdiv ((2 : Int) ^ x_1) ∧ (0 : Int) = (0 : Int) ∧ (↑((a.toNat &&& b.toNat) % (2 : Nat) ^ x) : Int) = (↑((a.toNat &&& b.toNat) % (2 : Nat) ^ x_1) : Int) ∧ (2 : Int) ^ x * (2 : Int) = (2 : Int) ^ x_1 ∧ True) ∧ True ∧ tabD = tabD ∧ True)) ∧ (decide ((0 : Int) < b.tdiv ((2 : Int) ^ x)) = false → k [Dat.mk (I) (↑((a.toNat &&& b.toNat) % (2 : Nat) ^ x) : Int)])) ∧ (decide ((0 : Int) < a.tdiv ((2 : Int) ^ x)) = false → k [Dat.mk (I) (↑((a.toNat &&& b.toNat) % (2 : Nat) ^ x) : Int)])) := by kernel_rfl
theorem vcMask (s n : Int) (k : List Dat → Prop) : vcF ⟨Et, [], glT, [], []⟩ [joinAll] (Tryd.f43.body.getD .skip) Tryd.f43.ntmps [(.tmp 4, .bool)] [⟨I, s⟩, ⟨I, n⟩] k = (
  (decide ((0 : Int) ≤ s) = true → (0 : Int) ≤ n ∧ n < (64 : Int) ∧ IntKind.i64.bits = (64 : Nat) ∧ inK IntKind.i64 ((1 : Int) * (2 : Int) ^ n.toNat) ∧ k [Dat.mk Ty.bool (decide (s < (1 : Int) * (2 : Int) ^ n.toNat))]) ∧ (decide ((0 : Int) ≤ s) = false → k [Dat.mk Ty.bool false])) := by kernel_rfl
theorem vcCheck (n : Int) (l : List Int) (k : List Dat → Prop) : vcF ⟨Et, [(39, cWithin), (43, cMask)], glT, [], []⟩ (anCheck n l) (Tryd.f20.body.getD .skip) Tryd.f20.ntmps [(.tmp 4, tErr)] [⟨I, n⟩, ⟨.sl I, l⟩] k = (
  True ∧ ((!inB n (1 : Int) (8 : Int)) = true → (1 : Int) ≠ (0 : Int) ∧ k [Dat.mk (Ty.err (58 : Nat)) (1 : Int)]) ∧ ((!inB n (1 : Int) (8 : Int)) = false → (decide ((↑l.length : Int) = (0 : Int)) = true → (5 : Int) ≠ (0 : Int) ∧ k [Dat.mk (Ty.err (58 : Nat)) (5 : Int)]) ∧ (decide ((↑l.length : Int) = (0 : Int)) = false → (decide ((20 : Int) < (↑l.length : Int)) = true → (4 : Int) ≠ (0 : Int) ∧ k [Dat.mk (Ty.err (58 : Nat)) (4 : Int)]) ∧ (decide ((20 : Int) < (↑l.length : Int)) = false → (∃ (x : Nat), (chkS n l = setsE n l (l.length - x) x ∧ x ≤ l.length ∧ inB n (1 : Int) (8 : Int) = true ∧ ∀ (j : Nat), j < x → setE n l j = (0 : Int)) ∧ (n = n ∧ l = l ∧ (0 : Int) = (0 : Int) ∧ l = l ∧ (↑l.length : Int) = (↑l.length : Int) ∧ (0 : Int) = (↑x : Int) ∧ True) ∧ True ∧ tabD = tabD ∧ True) ∧ ∀ (x : Nat), (chkS n l = setsE n l (l.length - x) x ∧ x ≤ l.length ∧ inB n (1 : Int) (8 : Int) = true ∧ ∀ (j : Nat), j < x → setE n l j = (0 : Int)) → (decide ((↑x : Int) < (↑l.length : Int)) = true → (0 : Int) ≤ (↑x : Int) ∧ (↑x : Int) < (↑l.length : Int) ∧ ((0 : Int) ≤ n ∧ n ≤ (61 : Int)) ∧ ((!maskB (l.getD (↑x : Int).toNat (0 : Int)) n) = true → (1 : Int) ≠ (0 : Int) ∧ k [Dat.mk (Ty.err (58 : Nat)) (1 : Int)]) ∧ ((!maskB (l.getD (↑x : Int).toNat (0 : Int)) n) = false → (decide (l.getD (↑x : Int).toNat (0 : Int) = (0 : Int)) = true → (3 : Int) ≠ (0 : Int) ∧ k [Dat.mk (Ty.err (58 : Nat)) (3 : Int)]) ∧ (decide (l.getD (↑x : Int).toNat (0 : Int) = (0 : Int)) = false → (0 : Int) ≤ (0 : Int) ∧ (0 : Int) ≤ (↑x : Int) ∧ (↑x : Int) ≤ (↑l.length : Int) ∧ (∃ (x_1 : Nat), (x_1 ≤ (↑x : Int).toNat ∧ ∀ (t : Int), t ∈ List.take x_1 (List.take (↑x : Int).toNat l) → meetB (l.getD (↑x : Int).toNat (0 : Int)) t = true) ∧ (n = n ∧ l = l ∧ (0 : Int) = (0 : Int) ∧ l.getD (↑x : Int).toNat (0 : Int) = l.getD (↑x : Int).toNat (0 : Int) ∧ l = l ∧ (↑l.length : Int) = (↑l.length : Int) ∧ (↑x : Int) = (↑x : Int) ∧ List.drop (Int.toNat (0 : Int)) (List.take (↑x : Int).toNat l) = List.drop (Int.toNat (0 : Int)) (List.take (↑x : Int).toNat l) ∧ (↑(List.drop (Int.toNat (0 : Int)) (List.take (↑x : Int).toNat l)).length : Int) = (↑(List.drop (Int.toNat (0 : Int)) (List.take (↑x : Int).toNat l)).length : Int) ∧ (0 : Int) = (↑x_1 : Int) ∧ True) ∧ True ∧ tabD = tabD ∧ True) ∧ ∀ (x_1 : Nat), (x_1 ≤ (↑x : Int).toNat ∧ ∀ (t : Int), t ∈ List.take x_1 (List.take (↑x : Int).toNat l) → meetB (l.getD (↑x : Int).toNat (0 : Int)) t = true) → (decide ((↑x_1 : Int) < (↑(List.drop (Int.toNat (0 : Int)) (List.take (↑x : Int).toNat l)).length : Int)) = true → (0 : Int) ≤ (↑x_1 : Int) ∧ (↑x_1 : Int) < (↑(List.drop (Int.toNat (0 : Int)) (List.take (↑x : Int).toNat l)).length : Int) ∧ (0 : Int) ≤ l.getD (↑x : Int).toNat (0 : Int) ∧ (0 : Int) ≤ (List.drop (Int.toNat (0 : Int)) (List.take (↑x : Int).toNat l)).getD (↑x_1 : Int).toNat (0 : Int) ∧ (decide ((↑((l.getD (↑x : Int).toNat (0 : Int)).toNat &&& ((List.drop (Int.toNat (0 : Int)) (List.take (↑x : Int).toNat l)).getD (↑x_1 : Int).toNat (0 : Int)).toNat) : Int) = (0 : Int)) = true → (6 : Int) ≠ (0 : Int) ∧ k [Dat.mk (Ty.err (58 : Nat)) (6 : Int)]) ∧ (decide ((↑((l.getD (↑x : Int).toNat (0 : Int)).toNat &&& ((List.drop (Int.toNat (0 : Int)) (List.take (↑x : Int).toNat l)).getD (↑x_1 : Int).toNat (0 : Int)).toNat) : Int) = (0 : Int)) = false → inK IntKind.i64 ((↑x_1 : Int) + (1 : Int)) ∧ ∃ (x_2 : Nat), (x_2 ≤ (↑x : Int).toNat ∧ ∀ (t : Int), t ∈ List.take x_2 (List.take (↑x : Int).toNat l) → meetB (l.getD (↑x : Int).toNat (0 : Int)) t = true) ∧ l.length - x_2 < l.length - x_1 ∧ (n = n ∧ l = l ∧ (0 : Int) = (0 : Int) ∧ l.getD (↑x : Int).toNat (0 : Int) = l.getD (↑x : Int).toNat (0 : Int) ∧ l = l ∧ (↑l.length : Int) = (↑l.length : Int) ∧ (↑x : Int) = (↑x : Int) ∧ List.drop (Int.toNat (0 : Int)) (List.take (↑x : Int).toNat l) = List.drop (Int.toNat (0 : Int)) (List.take (↑x : Int).toNat l) ∧ (↑(List.drop (Int.toNat (0 : Int)) (List.take (↑x : Int).toNat l)).length : Int) = (↑(List.drop (Int.toNat (0 : Int)) (List.take (↑x : Int).toNat l)).length : Int) ∧ (↑x_1 : Int) + (1 : Int) = (↑x_2 : Int) ∧ True) ∧ True ∧ tabD = tabD ∧ True)) ∧ (decide ((↑x_1 : Int) < (↑(List.drop (Int.toNat (0 : Int)) (List.take (↑x : Int).toNat l)).length : Int)) = false → inK IntKind.i64 ((↑x : Int) + (1 : Int)) ∧ ∃ (x_2 : Nat), (chkS n l = setsE n l (l.length - x_2) x_2 ∧ x_2 ≤ l.length ∧ inB n (1 : Int) (8 : Int) = true ∧ ∀ (j : Nat), j < x_2 → setE n l j = (0 : Int)) ∧ l.length - x_2 < l.length - x ∧ (n = n ∧ l = l ∧ (0 : Int) = (0 : Int) ∧ l = l ∧ (↑l.length : Int) = (↑l.length : Int) ∧ (↑x : Int) + (1 : Int) = (↑x_2 : Int) ∧ True) ∧ True ∧ tabD = tabD ∧ True)))) ∧ (decide ((↑x : Int) < (↑l.length : Int)) = false → k [Dat.mk (Ty.err (58 : Nat)) (0 : Int)]))))) := by kernel_rfl
theorem vcHas1 (s v : Int) (k : List Dat → Prop) : vcF ⟨Et, [], glT, [], []⟩ [] (Tryd.f56.body.getD .skip) Tryd.f56.ntmps [(.tmp 3, .bool)] [⟨I, s⟩, ⟨.ptr I, some v⟩] k = (
  (0 : Int) ≤ s ∧ (0 : Int) ≤ v ∧ k [Dat.mk Ty.bool (decide ((↑(s.toNat ^^^ s.toNat &&& v.toNat) : Int) = (0 : Int)))]) := by kernel_rfl
theorem vcLeast1 (s v : Int) (k : List Dat → Prop) : vcF ⟨Et, [], glT, [], []⟩ [joinAll] (Tryd.f46.body.getD .skip) Tryd.f46.ntmps [(.tmp 3, .bool)] [⟨I, s⟩, ⟨.ptr I, some v⟩] k = (
  ((!decide (s = v)) = true → (0 : Int) ≤ s ∧ (0 : Int) ≤ v ∧ k [Dat.mk Ty.bool (decide ((↑(s.toNat ^^^ s.toNat &&& v.toNat) : Int) = (0 : Int)))]) ∧ ((!decide (s = v)) = false → k [Dat.mk Ty.bool false])) := by kernel_rfl
theorem vcIdxA (l : List Int) (v : Int) (k : List Dat → Prop) : vcF ⟨Et, [(56, cHas1)], glT, [], []⟩ (anIdx (fun s => subS s v) l) (Tryd.f58.body.getD .skip) Tryd.f58.ntmps [(.tmp 4, I)] [⟨.sl I, l⟩, ⟨tF 56, some (some v, ())⟩] k = (
  (∃ (x : Nat), (x ≤ l.length ∧ idxP (fun (s : Int) => subS s v) l (0 : Int) = idxP (fun (s : Int) => subS s v) (List.drop x l) (↑x : Int)) ∧ (l = l ∧ some (some v, ()) = some (some v, ()) ∧ (0 : Int) = (0 : Int) ∧ (↑l.length : Int) = (↑l.length : Int) ∧ (0 : Int) = (↑x : Int) ∧ True) ∧ True ∧ tabD = tabD ∧ True) ∧ ∀ (x : Nat), x ≤ l.length ∧ idxP (fun (s : Int) => subS s v) l (0 : Int) = idxP (fun (s : Int) => subS s v) (List.drop x l) (↑x : Int) → (decide ((↑x : Int) < (↑l.length : Int)) = true → (0 : Int) ≤ (↑x : Int) ∧ (↑x : Int) < (↑l.length : Int) ∧ ((0 : Int) ≤ l.getD (↑x : Int).toNat (0 : Int) ∧ ∃ (v_1 : Int), some v = some v_1 ∧ (0 : Int) ≤ v_1) ∧ (subS (l.getD (↑x : Int).toNat (0 : Int)) v = true → k [Dat.mk (I) (↑x : Int)]) ∧ (subS (l.getD (↑x : Int).toNat (0 : Int)) v = false → inK IntKind.i64 ((↑x : Int) + (1 : Int)) ∧ ∃ (x_1 : Nat), (x_1 ≤ l.length ∧ idxP (fun (s : Int) => subS s v) l (0 : Int) = idxP (fun (s : Int) => subS s v) (List.drop x_1 l) (↑x_1 : Int)) ∧ l.length - x_1 < l.length - x ∧ (l = l ∧ some (some v, ()) = some (some v, ()) ∧ (0 : Int) = (0 : Int) ∧ (↑l.length : Int) = (↑l.length : Int) ∧ (↑x : Int) + (1 : Int) = (↑x_1 : Int) ∧ True) ∧ True ∧ tabD = tabD ∧ True)) ∧ (decide ((↑x : Int) < (↑l.length : Int)) = false → k [Dat.mk (I) (-1 : Int)])) := by kernel_rfl
theorem vcIdxB (l : List Int) (v : Int) (k : List Dat → Prop) : vcF ⟨Et2, [(46, cLeast1)], glT, [], []⟩ (anIdx (lstB v) l) (Tryd.f58.body.getD .skip) Tryd.f58.ntmps [(.tmp 4, I)] [⟨.sl I, l⟩, ⟨tF 46, some (some v, ())⟩] k = (
  (∃ (x : Nat), (x ≤ l.length ∧ idxP (lstB v) l (0 : Int) = idxP (lstB v) (List.drop x l) (↑x : Int)) ∧ (l = l ∧ some (some v, ()) = some (some v, ()) ∧ (0 : Int) = (0 : Int) ∧ (↑l.length : Int) = (↑l.length : Int) ∧ (0 : Int) = (↑x : Int) ∧ True) ∧ True ∧ tabD = tabD ∧ True) ∧ ∀ (x : Nat), x ≤ l.length ∧ idxP (lstB v) l (0 : Int) = idxP (lstB v) (List.drop x l) (↑x : Int) → (decide ((↑x : Int) < (↑l.length : Int)) = true → (0 : Int) ≤ (↑x : Int) ∧ (↑x : Int) < (↑l.length : Int) ∧ ((0 : Int) ≤ l.getD (↑x : Int).toNat (0 : Int) ∧ ∃ (v_1 : Int), some v = some v_1 ∧ (0 : Int) ≤ v_1) ∧ (lstB v (l.getD (↑x : Int).toNat (0 : Int)) = true → k [Dat.mk (I) (↑x : Int)]) ∧ (lstB v (l.getD (↑x : Int).toNat (0 : Int)) = false → inK IntKind.i64 ((↑x : Int) + (1 : Int)) ∧ ∃ (x_1 : Nat), (x_1 ≤ l.length ∧ idxP (lstB v) l (0 : Int) = idxP (lstB v) (List.drop x_1 l) (↑x_1 : Int)) ∧ l.length - x_1 < l.length - x ∧ (l = l ∧ some (some v, ()) = some (some v, ()) ∧ (0 : Int) = (0 : Int) ∧ (↑l.length : Int) = (↑l.length : Int) ∧ (↑x : Int) + (1 : Int) = (↑x_1 : Int) ∧ True) ∧ True ∧ tabD = tabD ∧ True)) ∧ (decide ((↑x : Int) < (↑l.length : Int)) = false → k [Dat.mk (I) (-1 : Int)])) := by kernel_rfl
theorem vcConA (l : List Int) (v : Int) (k : List Dat → Prop) : vcF ⟨Et, [(58, cIdxF 56 fun v s => subS s v)], glT, [], []⟩ [] (Tryd.f45.body.getD .skip) Tryd.f45.ntmps [(.tmp 4, .bool)] [⟨.sl I, l⟩, ⟨tF 56, some (some v, ())⟩] k = (
  ((∃ (v_1 : Int), some (some v, ()) = some (some v_1, ()) ∧ (0 : Int) ≤ v_1) ∧ ∀ (s : Int), s ∈ l → (0 : Int) ≤ s) ∧ k [Dat.mk Ty.bool (decide ((0 : Int) ≤ idxP (fun (s : Int) => subS s v) l (0 : Int)))]) := by kernel_rfl
theorem vcConB (l : List Int) (v : Int) (k : List Dat → Prop) : vcF ⟨Et2, [(58, cIdxF 46 lstB)], glT, [], []⟩ [] (Tryd.f45.body.getD .skip) Tryd.f45.ntmps [(.tmp 4, .bool)] [⟨.sl I, l⟩, ⟨tF 46, some (some v, ())⟩] k = (
  ((∃ (v_1 : Int), some (some v, ()) = some (some v_1, ()) ∧ (0 : Int) ≤ v_1) ∧ ∀ (s : Int), s ∈ l → (0 : Int) ≤ s) ∧ k [Dat.mk Ty.bool (decide ((0 : Int) ≤ idxP (lstB v) l (0 : Int)))]) := by kernel_rfl
theorem vcHas0 (l : List Int) (v : Int) (k : List Dat → Prop) : vcF ⟨Et, [(45, cConF 56 fun v s => subS s v)], glT, [], []⟩ anHas0 (Tryd.f42.body.getD .skip) Tryd.f42.ntmps [(.tmp 4, .bool)] [⟨.sl I, l⟩, ⟨I, v⟩] k = (
  ((∃ (v_1 : Int), some (some v, ()) = some (some v_1, ()) ∧ (0 : Int) ≤ v_1) ∧ ∀ (s : Int), s ∈ l → (0 : Int) ≤ s) ∧ k [Dat.mk Ty.bool (l.any fun (s : Int) => subS s v)]) := by kernel_rfl
theorem vcHas (n : Int) (l : List Int) (v : Int) (k : List Dat → Prop) : vcF ⟨Et, [(20, cCheck), (43, cMask), (42, cHas0)], glT, [], []⟩ [] (Tryd.f19.body.getD .skip) Tryd.f19.ntmps [(.tmp 6, .bool), (.tmp 7, tErr)] [⟨I, n⟩, ⟨.sl I, l⟩, ⟨I, v⟩] k = (
  True ∧ ((!decide (chkS n l = (0 : Int))) = true → k [Dat.mk Ty.bool false, Dat.mk (Ty.err (58 : Nat)) (chkS n l)]) ∧ ((!decide (chkS n l = (0 : Int))) = false → ((0 : Int) ≤ n ∧ n ≤ (61 : Int)) ∧ ((!maskB v n) = true → (1 : Int) ≠ (0 : Int) ∧ k [Dat.mk Ty.bool false, Dat.mk (Ty.err (58 : Nat)) (1 : Int)]) ∧ ((!maskB v n) = false → ((0 : Int) ≤ v ∧ ∀ (s : Int), s ∈ l → (0 : Int) ≤ s) ∧ k [Dat.mk Ty.bool (hasB l v), Dat.mk (Ty.err (58 : Nat)) (0 : Int)]))) := by kernel_rfl
theorem vcIdx (l : List Int) (v : Int) (k : List Dat → Prop) : vcF ⟨Et, [], glT, [], []⟩ (anIdx (fun s => decide (v = s)) l) (Tryd.f57.body.getD .skip) Tryd.f57.ntmps [(.tmp 4, I)] [⟨.sl I, l⟩, ⟨I, v⟩] k = (
  (∃ (x : Nat), (x ≤ l.length ∧ idxP (fun (s : Int) => decide (v = s)) l (0 : Int) = idxP (fun (s : Int) => decide (v = s)) (List.drop x l) (↑x : Int)) ∧ (l = l ∧ v = v ∧ (0 : Int) = (0 : Int) ∧ (↑l.length : Int) = (↑l.length : Int) ∧ (0 : Int) = (↑x : Int) ∧ True) ∧ True ∧ tabD = tabD ∧ True) ∧ ∀ (x : Nat), x ≤ l.length ∧ idxP (fun (s : Int) => decide (v = s)) l (0 : Int) = idxP (fun (s : Int) => decide (v = s)) (List.drop x l) (↑x : Int) → (decide ((↑x : Int) < (↑l.length : Int)) = true → (0 : Int) ≤ (↑x : Int) ∧ (↑x : Int) < (↑l.length : Int) ∧ (decide (v = l.getD (↑x : Int).toNat (0 : Int)) = true → k [Dat.mk (I) (↑x : Int)]) ∧ (decide (v = l.getD (↑x : Int).toNat (0 : Int)) = false → inK IntKind.i64 ((↑x : Int) + (1 : Int)) ∧ ∃ (x_1 : Nat), (x_1 ≤ l.length ∧ idxP (fun (s : Int) => decide (v = s)) l (0 : Int) = idxP (fun (s : Int) => decide (v = s)) (List.drop x_1 l) (↑x_1 : Int)) ∧ l.length - x_1 < l.length - x ∧ (l = l ∧ v = v ∧ (0 : Int) = (0 : Int) ∧ (↑l.length : Int) = (↑l.length : Int) ∧ (↑x : Int) + (1 : Int) = (↑x_1 : Int) ∧ True) ∧ True ∧ tabD = tabD ∧ True)) ∧ (decide ((↑x : Int) < (↑l.length : Int)) = false → k [Dat.mk (I) (-1 : Int)])) := by kernel_rfl
theorem vcCon (l : List Int) (v : Int) (k : List Dat → Prop) : vcF ⟨Et, [(57, cIdx)], glT, [], []⟩ [] (Tryd.f44.body.getD .skip) Tryd.f44.ntmps [(.tmp 4, .bool)] [⟨.sl I, l⟩, ⟨I, v⟩] k = (
  True ∧ k [Dat.mk Ty.bool (decide ((0 : Int) ≤ idxP (fun (s : Int) => decide (v = s)) l (0 : Int)))]) := by kernel_rfl
end Go.Proofs.YtlopkkoenfngiaaDoor

/- Quorums: checks, sets in sets, what is among what. -/
namespace Go.Proofs.YtlopkkoenfngiaaDoor
open Go.Vc

theorem getD_at {l : List Int} {i : Nat} (h : i < l.length) : l.getD i 0 = l[i] := by
  rw [List.getD_eq_getElem?_getD, List.getElem?_eq_getElem h]; rfl
theorem take_snoc {l : List Int} {i : Nat} (h : i < l.length) : l.take (i + 1) = l.take i ++ [l.getD i 0] := by
  rw [List.take_add_one, List.getElem?_eq_getElem h, getD_at h]; rfl
theorem getD_mem {l : List Int} {i : Nat} (h : i < l.length) : l.getD i 0 ∈ l := by
  rw [getD_at h]; exact List.getElem_mem h

theorem both_step (a b x : Nat) : (a &&& b) % 2 ^ (x + 1) = (a &&& b) % 2 ^ x + (if a.testBit x = true ∧ b.testBit x = true then 2 ^ x else 0) := by
  have h : (a.testBit x = true ∧ b.testBit x = true) ↔ (a &&& b) / 2 ^ x % 2 = 1 := by
    have := Nat.testBit_and a b x
    rw [Nat.testBit_eq_decide_div_mod_eq] at this
    rw [← Bool.and_eq_true, ← this, decide_eq_true_eq]
  rw [Nat.mod_pow_succ]
  by_cases hb : (a &&& b) / 2 ^ x % 2 = 1
  · rw [if_pos (h.2 hb), hb, Nat.mul_one]
  · have h0 : (a &&& b) / 2 ^ x % 2 = 0 := by omega
    rw [if_neg (fun e => hb (h.1 e)), h0, Nat.mul_zero]

theorem tmod_bit (n x : Nat) : (((n : Int).tdiv ((2 : Int) ^ x)).tmod 2 = 1) ↔ n.testBit x = true := by
  have h := bit_of (s := (n : Int)) (x := x)
  rw [bitB_nat] at h
  constructor
  · intro e; rw [← h]; exact decide_eq_true e
  · intro e; rw [e] at h; exact of_decide_eq_true h

theorem okBoth : PlainOk Tryd.prog glT 15 cBoth := by
  refine plain_of (CxOk.mk' Et_ok rfl mixed (gl := glT) GOk.nil GoOk.nil noIt) Tryd.func15 (c := Tryd.f15.body.getD .skip) (rvs := [(.tmp 4, I)]) (by kernel_rfl) (by kernel_rfl) (by kernel_rfl) ?_
  intro ds k ⟨hp, hk⟩ hwf
  obtain ⟨a, b, rfl, ha61, -⟩ := dest2 hp
  have hk : k [⟨I, ((a.toNat &&& b.toNat : Nat) : Int)⟩] := hk
  have ha : inK .i64 a := (wf2 hwf).1
  have hb : inK .i64 b := (wf2 hwf).2
  have hbi := inK_i64.1 hb
  refine ⟨anBoth a b, ?_⟩
  rw [vcBoth]
  simp only [decide_eq_true_eq, decide_eq_false_iff_not, and_true, true_and, ne_eq]
  have h20 : ¬ (2 : Int) = 0 := by decide
  have fin : ∀ (s : Int) (x : Nat), ¬ 0 < s.tdiv ((2 : Int) ^ x) → s.toNat < 2 ^ x := by
    intro s x h
    by_cases hs : 0 ≤ s
    · obtain ⟨n, rfl⟩ := Int.eq_ofNat_of_zero_le hs
      rw [tdivN] at h
      have h0 : n / 2 ^ x = 0 := by
        generalize n / 2 ^ x = q at h
        omega
      rcases Nat.lt_or_ge n (2 ^ x) with h | h
      · exact h
      · have := Nat.div_pos h (Nat.two_pow_pos x); omega
    · have : s.toNat = 0 := by omega
      rw [this]; exact Nat.two_pow_pos x
  have fink : ∀ x : Nat, (a.toNat &&& b.toNat) < 2 ^ x → k [⟨I, (((a.toNat &&& b.toNat) % 2 ^ x : Nat) : Int)⟩] := by
    intro x h; rw [Nat.mod_eq_of_lt h]; exact hk
  refine ⟨⟨0, by omega, by simp, by simp, by simp [Nat.mod_one], rfl⟩, fun x hx => ⟨fun hA => ⟨fun hB => ?_, fun hB => fink x (Nat.lt_of_le_of_lt Nat.and_le_right (fin b x hB))⟩, fun hA => fink x (Nat.lt_of_le_of_lt Nat.and_le_left (fin a x hA))⟩⟩
  have hpos := two_pow_pos x
  have hapos : 0 ≤ a := by
    refine Int.not_lt.1 fun hneg => ?_
    have := Int.tdiv_nonneg (a := -a) (b := (2 : Int) ^ x) (by omega) (by omega)
    rw [Int.neg_tdiv] at this; omega
  have hbpos : 0 ≤ b := by
    refine Int.not_lt.1 fun hneg => ?_
    have := Int.tdiv_nonneg (a := -b) (b := (2 : Int) ^ x) (by omega) (by omega)
    rw [Int.neg_tdiv] at this; omega
  obtain ⟨m, rfl⟩ := Int.eq_ofNat_of_zero_le hapos
  obtain ⟨n, rfl⟩ := Int.eq_ofNat_of_zero_le hbpos
  simp only [Int.toNat_natCast] at *
  have hx60 : x ≤ 60 := by
    rcases Nat.lt_or_ge x 61 with h | h
    · omega
    · rw [tdivN] at hA
      have h61 : (2 : Nat) ^ 61 = 2305843009213693952 := by decide
      have hpw : 2 ^ 61 ≤ 2 ^ x := Nat.pow_le_pow_right (by decide) h
      have hm61 : m < 2 ^ 61 := by rw [h61]; omega
      have h0 : m / 2 ^ x = 0 := Nat.div_eq_of_lt (Nat.lt_of_lt_of_le hm61 hpw)
      rw [h0] at hA
      exact absurd hA (by decide)
  have hp2 : (2 : Int) ^ x * 2 = 2 ^ (x + 1) := by rw [Int.pow_succ]
  have hple := two_pow_le (n := x + 1) (by omega)
  have hplx : (2 : Int) ^ x ≤ 2 ^ (x + 1) := by rw [← hp2]; omega
  have hcast : ((2 ^ x : Nat) : Int) = (2 : Int) ^ x := by rw [Int.natCast_pow]; rfl
  have hmod : (((m &&& n) % 2 ^ x : Nat) : Int) < (2 : Int) ^ x := by
    rw [← hcast]; exact Int.ofNat_lt.2 (Nat.mod_lt _ (Nat.two_pow_pos x))
  have hst := both_step m n x
  have nxt : ∀ v : Int, (v = (((m &&& n) % 2 ^ (x + 1) : Nat) : Int)) → ¬(2 : Int) = 0 ∧ inK .i64 (((m : Int).tdiv ((2 : Int) ^ x)).tdiv 2) ∧ ¬(2 : Int) = 0 ∧ inK .i64 (((n : Int).tdiv ((2 : Int) ^ x)).tdiv 2) ∧ inK .i64 ((2 : Int) ^ x * 2) ∧ ∃ x_1 : Nat, x_1 ≤ 61 ∧ 62 - x_1 < 62 - x ∧ ((m : Int).tdiv ((2 : Int) ^ x)).tdiv 2 = (m : Int).tdiv ((2 : Int) ^ x_1) ∧
      ((n : Int).tdiv ((2 : Int) ^ x)).tdiv 2 = (n : Int).tdiv ((2 : Int) ^ x_1) ∧ v = (((m &&& n) % 2 ^ x_1 : Nat) : Int) ∧ (2 : Int) ^ x * 2 = 2 ^ x_1 := by
    intro v hv
    refine ⟨h20, by rw [tdiv_pow]; exact (tdiv_in ha (x + 1)).1, h20, by rw [tdiv_pow]; exact (tdiv_in hb (x + 1)).1, inK_i64.2 (by rw [hp2]; omega), x + 1, by omega, by omega, tdiv_pow _ _, tdiv_pow _ _, hv, hp2⟩
  refine ⟨h20, (tdiv_in ha x).2, fun hAb => ⟨h20, (tdiv_in hb x).2, fun hBb => ⟨inK_i64.2 (by omega), nxt _ ?_⟩, fun hBb => nxt _ ?_⟩, fun hAb => nxt _ ?_⟩
  · rw [tmod_bit] at hAb hBb
    rw [hst, if_pos ⟨hAb, hBb⟩]
    omega
  · rw [tmod_bit] at hBb
    rw [hst, if_neg (fun h => hBb h.2)]; rfl
  · rw [tmod_bit] at hAb
    rw [hst, if_neg (fun h => hAb h.1)]; rfl

theorem okMask : PlainOk Tryd.prog glT 43 cMask := by
  refine plain_of (CxOk.mk' Et_ok rfl mixed (gl := glT) GOk.nil GoOk.nil noIt) Tryd.func43 (c := Tryd.f43.body.getD .skip) (rvs := [(.tmp 4, .bool)]) (by kernel_rfl) (by kernel_rfl) (by kernel_rfl) ?_
  intro ds k ⟨hp, hk⟩ hwf
  obtain ⟨s, n, rfl, h0, h61⟩ := dest2 hp
  have hk : k [⟨.bool, maskB s n⟩] := hk
  refine ⟨[joinAll], ?_⟩
  rw [vcMask]
  have hp1 := two_pow_le (n := n.toNat) (by omega)
  have hp2 := two_pow_pos n.toNat
  rw [Int.one_mul]
  unfold maskB at hk
  refine ⟨fun h => ⟨h0, by omega, rfl, inK_i64.2 (by omega), ?_⟩, fun h => ?_⟩
  · rw [h, Bool.true_and] at hk; exact hk
  · rw [h, Bool.false_and] at hk; exact hk

theorem okHas1 : PlainOk Tryd.prog glT 56 cHas1 := by
  refine plain_of (CxOk.mk' Et_ok rfl mixed (gl := glT) GOk.nil GoOk.nil noIt) Tryd.func56 (c := Tryd.f56.body.getD .skip) (rvs := [(.tmp 3, .bool)]) (by kernel_rfl) (by kernel_rfl) (by kernel_rfl) ?_
  intro ds k ⟨hp, hk⟩ hwf
  obtain ⟨s, p, rfl, h0, v, rfl, hv⟩ := dest2 hp
  have hk : k [⟨.bool, subS s v⟩] := hk
  refine ⟨[], ?_⟩
  rw [vcHas1]
  exact ⟨h0, hv, hk⟩

theorem okLeast1 : PlainOk Tryd.prog glT 46 cLeast1 := by
  refine plain_of (CxOk.mk' Et_ok rfl mixed (gl := glT) GOk.nil GoOk.nil noIt) Tryd.func46 (c := Tryd.f46.body.getD .skip) (rvs := [(.tmp 3, .bool)]) (by kernel_rfl) (by kernel_rfl) (by kernel_rfl) ?_
  intro ds k ⟨hp, hk⟩ hwf
  obtain ⟨s, p, rfl, h0, v, rfl, hv⟩ := dest2 hp
  have hk : k [⟨.bool, lstB v s⟩] := hk
  refine ⟨[joinAll], ?_⟩
  rw [vcLeast1]
  unfold lstB at hk
  refine ⟨fun h => ⟨h0, hv, ?_⟩, fun h => ?_⟩
  · rw [h, Bool.true_and] at hk; exact hk
  · rw [h, Bool.false_and] at hk; exact hk

theorem idxP_at {p : Int → Bool} {l : List Int} {x : Nat} (h : x < l.length) (i : Int) : idxP p (l.drop x) i = if p (l.getD x 0) = true then i else idxP p (l.drop (x + 1)) (i + 1) := by
  rw [List.drop_eq_getElem_cons h, getD_at h]; rfl
theorem idxP_any (p : Int → Bool) : ∀ (l : List Int) (i : Int), 0 ≤ i → decide (0 ≤ idxP p l i) = l.any p := by
  intro l
  induction l with
  | nil => intro i _; rfl
  | cons a r ih =>
    intro i hi
    rw [List.any_cons]
    unfold idxP
    cases h : p a with
    | true => simp [hi]
    | false => simp [ih (i + 1) (by omega)]

theorem okIdxA : PlainOk Tryd.prog glT 58 (cIdxF 56 fun v s => subS s v) := by
  refine plain_of (CxOk.mk' Et_ok rfl mixed (gl := glT) (GOk.cons okHas1 Tryd.func56 (by kernel_rfl) (by kernel_rfl) GOk.nil) GoOk.nil noIt) Tryd.func58 (c := Tryd.f58.body.getD .skip) (rvs := [(.tmp 4, I)]) (by kernel_rfl) (by kernel_rfl) (by kernel_rfl) ?_
  intro ds k ⟨hp, hk⟩ hwf
  obtain ⟨l, f, rfl, ⟨v, rfl, hv⟩, hl⟩ := dest2 hp
  have hk : k [⟨I, idxP (fun s => subS s v) l 0⟩] := hk
  have hml : maxLen ≤ 9223372036854775807 := by decide
  have hlen : l.length ≤ maxLen := (wf2 hwf).1.1
  refine ⟨anIdx (fun s => subS s v) l, ?_⟩
  rw [vcIdxA]
  simp only [decide_eq_true_eq, decide_eq_false_iff_not, and_true, true_and, Int.toNat_natCast]
  refine ⟨⟨0, ⟨by omega, rfl⟩, rfl⟩, fun x ⟨hx, he⟩ => ⟨fun hlt => ?_, fun hge => ?_⟩⟩
  · have hxl : x < l.length := by omega
    rw [idxP_at hxl] at he
    refine ⟨by omega, hlt, ⟨hl _ (getD_mem hxl), v, rfl, hv⟩, fun hb => ?_, fun hb => ⟨inK_i64.2 (by omega), x + 1, ⟨by omega, ?_⟩, by omega, by omega⟩⟩
    · rw [he, if_pos hb] at hk; exact hk
    · rw [he, if_neg (by rw [hb]; decide)]; rfl
  · have : x = l.length := by omega
    subst this
    rw [he, List.drop_length] at hk
    exact hk

theorem okIdxB : PlainOk Tryd.prog glT 58 (cIdxF 46 lstB) := by
  refine plain_of (CxOk.mk' Et2_ok rfl mixed (gl := glT) (GOk.cons okLeast1 Tryd.func46 (by kernel_rfl) (by kernel_rfl) GOk.nil) GoOk.nil noIt) Tryd.func58 (c := Tryd.f58.body.getD .skip) (rvs := [(.tmp 4, I)]) (by kernel_rfl) (by kernel_rfl) (by kernel_rfl) ?_
  intro ds k ⟨hp, hk⟩ hwf
  obtain ⟨l, f, rfl, ⟨v, rfl, hv⟩, hl⟩ := dest2 hp
  have hk : k [⟨I, idxP (lstB v) l 0⟩] := hk
  have hml : maxLen ≤ 9223372036854775807 := by decide
  have hlen : l.length ≤ maxLen := (wf2 hwf).1.1
  refine ⟨anIdx (lstB v) l, ?_⟩
  rw [vcIdxB]
  simp only [decide_eq_true_eq, decide_eq_false_iff_not, and_true, true_and, Int.toNat_natCast]
  refine ⟨⟨0, ⟨by omega, rfl⟩, rfl⟩, fun x ⟨hx, he⟩ => ⟨fun hlt => ?_, fun hge => ?_⟩⟩
  · have hxl : x < l.length := by omega
    rw [idxP_at hxl] at he
    refine ⟨by omega, hlt, ⟨hl _ (getD_mem hxl), v, rfl, hv⟩, fun hb => ?_, fun hb => ⟨inK_i64.2 (by omega), x + 1, ⟨by omega, ?_⟩, by omega, by omega⟩⟩
    · rw [he, if_pos hb] at hk; exact hk
    · rw [he, if_neg (by rw [hb]; decide)]; rfl
  · have : x = l.length := by omega
    subst this
    rw [he, List.drop_length] at hk
    exact hk

theorem okConA : PlainOk Tryd.prog glT 45 (cConF 56 fun v s => subS s v) := by
  refine plain_of (CxOk.mk' Et_ok rfl mixed (gl := glT) (GOk.cons okIdxA Tryd.func58 (by kernel_rfl) (by kernel_rfl) GOk.nil) GoOk.nil noIt) Tryd.func45 (c := Tryd.f45.body.getD .skip) (rvs := [(.tmp 4, .bool)]) (by kernel_rfl) (by kernel_rfl) (by kernel_rfl) ?_
  intro ds k ⟨hp, hk⟩ hwf
  obtain ⟨l, f, rfl, ⟨v, rfl, hv⟩, hl⟩ := dest2 hp
  have hk : k [⟨.bool, l.any fun s => subS s v⟩] := hk
  refine ⟨[], ?_⟩
  rw [vcConA, idxP_any _ _ _ (by decide)]
  exact ⟨⟨⟨v, rfl, hv⟩, hl⟩, hk⟩
theorem okConB : PlainOk Tryd.prog glT 45 (cConF 46 lstB) := by
  refine plain_of (CxOk.mk' Et2_ok rfl mixed (gl := glT) (GOk.cons okIdxB Tryd.func58 (by kernel_rfl) (by kernel_rfl) GOk.nil) GoOk.nil noIt) Tryd.func45 (c := Tryd.f45.body.getD .skip) (rvs := [(.tmp 4, .bool)]) (by kernel_rfl) (by kernel_rfl) (by kernel_rfl) ?_
  intro ds k ⟨hp, hk⟩ hwf
  obtain ⟨l, f, rfl, ⟨v, rfl, hv⟩, hl⟩ := dest2 hp
  have hk : k [⟨.bool, l.any (lstB v)⟩] := hk
  refine ⟨[], ?_⟩
  rw [vcConB, idxP_any _ _ _ (by decide)]
  exact ⟨⟨⟨v, rfl, hv⟩, hl⟩, hk⟩

theorem okHas0 : PlainOk Tryd.prog glT 42 cHas0 := by
  refine plain_of (CxOk.mk' Et_ok rfl mixed (gl := glT) (GOk.cons okConA Tryd.func45 (by kernel_rfl) (by kernel_rfl) GOk.nil) GoOk.nil noIt) Tryd.func42 (c := Tryd.f42.body.getD .skip) (rvs := [(.tmp 4, .bool)]) (by kernel_rfl) (by kernel_rfl) (by kernel_rfl) ?_
  intro ds k ⟨hp, hk⟩ hwf
  obtain ⟨l, v, rfl, hv, hl⟩ := dest2 hp
  have hk : k [⟨.bool, hasB l v⟩] := hk
  refine ⟨anHas0, ?_⟩
  rw [vcHas0]
  exact ⟨⟨⟨v, rfl, hv⟩, hl⟩, hk⟩

theorem okIdx : PlainOk Tryd.prog glT 57 cIdx := by
  refine plain_of (CxOk.mk' Et_ok rfl mixed (gl := glT) GOk.nil GoOk.nil noIt) Tryd.func57 (c := Tryd.f57.body.getD .skip) (rvs := [(.tmp 4, I)]) (by kernel_rfl) (by kernel_rfl) (by kernel_rfl) ?_
  intro ds k ⟨hp, hk⟩ hwf
  obtain ⟨l, v, rfl, -⟩ := dest2 hp
  have hk : k [⟨I, idxP (fun s => decide (v = s)) l 0⟩] := hk
  have hml : maxLen ≤ 9223372036854775807 := by decide
  have hlen : l.length ≤ maxLen := (wf2 hwf).1.1
  refine ⟨anIdx (fun s => decide (v = s)) l, ?_⟩
  rw [vcIdx]
  simp only [decide_eq_true_eq, decide_eq_false_iff_not, and_true, true_and, Int.toNat_natCast]
  refine ⟨⟨0, ⟨by omega, rfl⟩, rfl⟩, fun x ⟨hx, he⟩ => ⟨fun hlt => ?_, fun hge => ?_⟩⟩
  · have hxl : x < l.length := by omega
    rw [idxP_at hxl] at he
    refine ⟨by omega, hlt, fun hb => ?_, fun hb => ⟨inK_i64.2 (by omega), x + 1, ⟨by omega, ?_⟩, by omega, by omega⟩⟩
    · rw [he, if_pos (decide_eq_true hb)] at hk; exact hk
    · rw [he, if_neg (by rw [decide_eq_false hb]; decide)]; rfl
  · have : x = l.length := by omega
    subst this
    rw [he, List.drop_length] at hk
    exact hk
theorem okCon : PlainOk Tryd.prog glT 44 cCon := by
  refine plain_of (CxOk.mk' Et_ok rfl mixed (gl := glT) (GOk.cons okIdx Tryd.func57 (by kernel_rfl) (by kernel_rfl) GOk.nil) GoOk.nil noIt) Tryd.func44 (c := Tryd.f44.body.getD .skip) (rvs := [(.tmp 4, .bool)]) (by kernel_rfl) (by kernel_rfl) (by kernel_rfl) ?_
  intro ds k ⟨hp, hk⟩ hwf
  obtain ⟨l, v, rfl, -⟩ := dest2 hp
  have hk : k [⟨.bool, l.any fun s => decide (v = s)⟩] := hk
  refine ⟨[], ?_⟩
  rw [vcCon, idxP_any _ _ _ (by decide)]
  exact ⟨trivial, hk⟩
end Go.Proofs.YtlopkkoenfngiaaDoor

/- What the functions of this seat have to satisfy, by program: each verification condition in plain words. -/
namespace Go.Proofs.YtlopkkoenfngiaaDoor
open Go.Vc
set_option linter.unusedVariables false
theorem vcFull (n : Int) (l : List Int) (k : List Dat → Prop) : vcF ⟨Et, [(20, cCheck), (42, cHas0)], glT, [], []⟩ (anFull n l) (Tryd.f18.body.getD .skip) Tryd.f18.ntmps [(.tmp 4, .bool), (.tmp 5, I), (.tmp 6, tErr)] [⟨I, n⟩, ⟨.sl I, l⟩] k = (
  True ∧ ((!decide (chkS n l = (0 : Int))) = true → k [Dat.mk Ty.bool false, Dat.mk (I) (0 : Int), Dat.mk (Ty.err (58 : Nat)) (chkS n l)]) ∧ ((!decide (chkS n l = (0 : Int))) = false → (0 : Int) ≤ n ∧ n < (64 : Int) ∧ IntKind.i64.bits = (64 : Nat) ∧ inK IntKind.i64 ((1 : Int) * (2 : Int) ^ n.toNat) ∧ (∃ (x : Nat), (x ≤ (2 : Nat) ^ n.toNat ∧ fullO n l = firstP (neither n l) ((2 : Nat) ^ n.toNat - x) x ∧ chkS n l = (0 : Int)) ∧ (n = n ∧ l = l ∧ false = false ∧ (0 : Int) = (0 : Int) ∧ (0 : Int) = (0 : Int) ∧ (1 : Int) * (2 : Int) ^ n.toNat = (1 : Int) * (2 : Int) ^ n.toNat ∧ (0 : Int) = (↑x : Int) ∧ True) ∧ True ∧ tabD = tabD ∧ True) ∧ ∀ (x : Nat), x ≤ (2 : Nat) ^ n.toNat ∧ fullO n l = firstP (neither n l) ((2 : Nat) ^ n.toNat - x) x ∧ chkS n l = (0 : Int) → (decide ((↑x : Int) < (1 : Int) * (2 : Int) ^ n.toNat) = true → ((0 : Int) ≤ (↑x : Int) ∧ ∀ (s : Int), s ∈ l → (0 : Int) ≤ s) ∧ ((!hasB l (↑x : Int)) = true → (0 : Int) ≤ n ∧ n < (64 : Int) ∧ IntKind.i64.bits = (64 : Nat) ∧ inK IntKind.i64 ((1 : Int) * (2 : Int) ^ n.toNat) ∧ inK IntKind.i64 ((1 : Int) * (2 : Int) ^ n.toNat - (1 : Int)) ∧ (0 : Int) ≤ (1 : Int) * (2 : Int) ^ n.toNat - (1 : Int) ∧ (0 : Int) ≤ (↑x : Int) ∧ ((0 : Int) ≤ (↑(((1 : Int) * (2 : Int) ^ n.toNat - (1 : Int)).toNat ^^^ ((1 : Int) * (2 : Int) ^ n.toNat - (1 : Int)).toNat &&& (↑x : Int).toNat) : Int) ∧ ∀ (s : Int), s ∈ l → (0 : Int) ≤ s) ∧ ((!hasB l (↑(((1 : Int) * (2 : Int) ^ n.toNat - (1 : Int)).toNat ^^^ ((1 : Int) * (2 : Int) ^ n.toNat - (1 : Int)).toNat &&& (↑x : Int).toNat) : Int)) = true → k [Dat.mk Ty.bool false, Dat.mk (I) (↑x : Int), Dat.mk (Ty.err (58 : Nat)) (0 : Int)]) ∧ ((!hasB l (↑(((1 : Int) * (2 : Int) ^ n.toNat - (1 : Int)).toNat ^^^ ((1 : Int) * (2 : Int) ^ n.toNat - (1 : Int)).toNat &&& (↑x : Int).toNat) : Int)) = false → inK IntKind.i64 ((↑x : Int) + (1 : Int)) ∧ ∃ (x_1 : Nat), (x_1 ≤ (2 : Nat) ^ n.toNat ∧ fullO n l = firstP (neither n l) ((2 : Nat) ^ n.toNat - x_1) x_1 ∧ chkS n l = (0 : Int)) ∧ (2 : Nat) ^ n.toNat - x_1 < (2 : Nat) ^ n.toNat - x ∧ (n = n ∧ l = l ∧ false = false ∧ (0 : Int) = (0 : Int) ∧ (0 : Int) = (0 : Int) ∧ (1 : Int) * (2 : Int) ^ n.toNat = (1 : Int) * (2 : Int) ^ n.toNat ∧ (↑x : Int) + (1 : Int) = (↑x_1 : Int) ∧ True) ∧ True ∧ tabD = tabD ∧ True)) ∧ ((!hasB l (↑x : Int)) = false → inK IntKind.i64 ((↑x : Int) + (1 : Int)) ∧ ∃ (x_1 : Nat), (x_1 ≤ (2 : Nat) ^ n.toNat ∧ fullO n l = firstP (neither n l) ((2 : Nat) ^ n.toNat - x_1) x_1 ∧ chkS n l = (0 : Int)) ∧ (2 : Nat) ^ n.toNat - x_1 < (2 : Nat) ^ n.toNat - x ∧ (n = n ∧ l = l ∧ false = false ∧ (0 : Int) = (0 : Int) ∧ (0 : Int) = (0 : Int) ∧ (1 : Int) * (2 : Int) ^ n.toNat = (1 : Int) * (2 : Int) ^ n.toNat ∧ (↑x : Int) + (1 : Int) = (↑x_1 : Int) ∧ True) ∧ True ∧ tabD = tabD ∧ True)) ∧ (decide ((↑x : Int) < (1 : Int) * (2 : Int) ^ n.toNat) = false → k [Dat.mk Ty.bool true, Dat.mk (I) (0 : Int), Dat.mk (Ty.err (58 : Nat)) (0 : Int)]))) := by kernel_rfl
theorem vcLeast (n : Int) (l : List Int) (k : List Dat → Prop) : vcF ⟨Et2, [(20, cCheck), (44, cCon), (45, cConF 46 lstB)], glT, [], []⟩ (anLeast n l) (Tryd.f21.body.getD .skip) Tryd.f21.ntmps [(.tmp 4, .sl I), (.tmp 5, tErr)] [⟨I, n⟩, ⟨.sl I, l⟩] k = (
  True ∧ ((!decide (chkS n l = (0 : Int))) = true → k [Dat.mk (I).sl [], Dat.mk (Ty.err (58 : Nat)) (chkS n l)]) ∧ ((!decide (chkS n l = (0 : Int))) = false → (0 : Int) ≤ n ∧ n < (64 : Int) ∧ IntKind.i64.bits = (64 : Nat) ∧ inK IntKind.i64 ((1 : Int) * (2 : Int) ^ n.toNat) ∧ (∃ (x : Nat), (x ≤ (2 : Nat) ^ n.toNat ∧ chkS n l = (0 : Int)) ∧ (n = n ∧ l = l ∧ True ∧ (0 : Int) = (0 : Int) ∧ True ∧ (1 : Int) * (2 : Int) ^ n.toNat = (1 : Int) * (2 : Int) ^ n.toNat ∧ (0 : Int) = (↑x : Int) ∧ True) ∧ (((3 : Nat) = (3 : Nat) ∧ [] = leastU l x) ∧ True) ∧ tabD = tabD ∧ True) ∧ ∀ (x : Nat), x ≤ (2 : Nat) ^ n.toNat ∧ chkS n l = (0 : Int) → (decide ((↑x : Int) < (1 : Int) * (2 : Int) ^ n.toNat) = true → True ∧ ((l.any fun (s : Int) => decide ((↑x : Int) = s)) = true → ((∃ (v : Int), some (some (↑x : Int), ()) = some (some v, ()) ∧ (0 : Int) ≤ v) ∧ ∀ (s : Int), s ∈ l → (0 : Int) ≤ s) ∧ ((!l.any (lstB (↑x : Int))) = true → (leastU l x).length + ((List.replicate (1 : Nat) (0 : Int)).set (0 : Nat) (↑x : Int)).length ≤ (1000000000 : Nat) ∧ inK IntKind.i64 ((↑x : Int) + (1 : Int)) ∧ ∃ (x_1 : Nat), (x_1 ≤ (2 : Nat) ^ n.toNat ∧ chkS n l = (0 : Int)) ∧ (2 : Nat) ^ n.toNat - x_1 < (2 : Nat) ^ n.toNat - x ∧ (n = n ∧ l = l ∧ True ∧ (0 : Int) = (0 : Int) ∧ True ∧ (1 : Int) * (2 : Int) ^ n.toNat = (1 : Int) * (2 : Int) ^ n.toNat ∧ (↑x : Int) + (1 : Int) = (↑x_1 : Int) ∧ True) ∧ (((3 : Nat) = (3 : Nat) ∧ (leastU l x).append ((List.replicate (1 : Nat) (0 : Int)).set (0 : Nat) (↑x : Int)) = leastU l x_1) ∧ True) ∧ tabD = tabD ∧ True) ∧ ((!l.any (lstB (↑x : Int))) = false → inK IntKind.i64 ((↑x : Int) + (1 : Int)) ∧ ∃ (x_1 : Nat), (x_1 ≤ (2 : Nat) ^ n.toNat ∧ chkS n l = (0 : Int)) ∧ (2 : Nat) ^ n.toNat - x_1 < (2 : Nat) ^ n.toNat - x ∧ (n = n ∧ l = l ∧ True ∧ (0 : Int) = (0 : Int) ∧ True ∧ (1 : Int) * (2 : Int) ^ n.toNat = (1 : Int) * (2 : Int) ^ n.toNat ∧ (↑x : Int) + (1 : Int) = (↑x_1 : Int) ∧ True) ∧ (((3 : Nat) = (3 : Nat) ∧ leastU l x = leastU l x_1) ∧ True) ∧ tabD = tabD ∧ True)) ∧ ((l.any fun (s : Int) => decide ((↑x : Int) = s)) = false → inK IntKind.i64 ((↑x : Int) + (1 : Int)) ∧ ∃ (x_1 : Nat), (x_1 ≤ (2 : Nat) ^ n.toNat ∧ chkS n l = (0 : Int)) ∧ (2 : Nat) ^ n.toNat - x_1 < (2 : Nat) ^ n.toNat - x ∧ (n = n ∧ l = l ∧ True ∧ (0 : Int) = (0 : Int) ∧ True ∧ (1 : Int) * (2 : Int) ^ n.toNat = (1 : Int) * (2 : Int) ^ n.toNat ∧ (↑x : Int) + (1 : Int) = (↑x_1 : Int) ∧ True) ∧ (((3 : Nat) = (3 : Nat) ∧ leastU l x = leastU l x_1) ∧ True) ∧ tabD = tabD ∧ True)) ∧ (decide ((↑x : Int) < (1 : Int) * (2 : Int) ^ n.toNat) = false → k [Dat.mk (I).sl (leastU l x), Dat.mk (Ty.err (58 : Nat)) (0 : Int)]))) := by kernel_rfl
end Go.Proofs.YtlopkkoenfngiaaDoor

/- Quorums: what is wrong with sets; the least ones; whether they are full. -/
namespace Go.Proofs.YtlopkkoenfngiaaDoor
open Go.Vc

theorem setsE_at {n : Int} {l : List Int} {x : Nat} (h : x < l.length) : setsE n l (l.length - x) x = if setE n l x = 0 then setsE n l (l.length - (x + 1)) (x + 1) else setE n l x := by
  obtain ⟨m, hm⟩ : ∃ m, l.length - x = m + 1 := ⟨l.length - x - 1, by omega⟩
  rw [hm, show l.length - (x + 1) = m by omega]; rfl

theorem check_vc (n : Int) (l : List Int) (k : List Dat → Prop) (hk : k [⟨tErr, chkS n l⟩]) :
    vcF ⟨Et, [(39, cWithin), (43, cMask)], glT, [], []⟩ (anCheck n l) (Tryd.f20.body.getD .skip) Tryd.f20.ntmps [(.tmp 4, tErr)] [⟨I, n⟩, ⟨.sl I, l⟩] k := by
  rw [vcCheck]
  simp only [decide_eq_true_eq, decide_eq_false_iff_not, and_true, true_and, Bool.not_eq_true', Bool.not_eq_false', Int.toNat_natCast]
  have ret : ∀ e : Int, chkS n l = e → k [⟨tErr, e⟩] := by rintro e rfl; exact hk
  refine ⟨fun h => ⟨by decide, ret 1 ?_⟩, fun h => ⟨fun h0 => ⟨by decide, ret 5 ?_⟩, fun h0 => ⟨fun h2 => ⟨by decide, ret 4 ?_⟩, fun h2 => ?_⟩⟩⟩
  · unfold chkS; rw [if_pos h]
  · unfold chkS; rw [if_neg (by rw [h]; decide), if_pos (by omega)]
  · unfold chkS; rw [if_neg (by rw [h]; decide), if_neg (by omega), if_pos (by omega)]
  · have hn : 1 ≤ n ∧ n ≤ 8 := by unfold inB at h; simpa using h
    have hst : chkS n l = setsE n l (l.length - 0) 0 := by unfold chkS; rw [if_neg (by rw [h]; decide), if_neg (by omega), if_neg (by omega)]; rfl
    refine ⟨⟨0, ⟨hst, by omega, h, fun j hj => by omega⟩, by omega⟩, fun x ⟨hx1, hx2, _, hx3⟩ => ⟨fun hlt => ?_, fun hge => ret 0 ?_⟩⟩
    · have hxl : x < l.length := by omega
      have hx1' := hx1
      rw [setsE_at hxl] at hx1'
      have bad : setE n l x ≠ 0 → chkS n l = setE n l x := fun h => by rw [hx1', if_neg h]
      refine ⟨by omega, hlt, ⟨by omega, by omega⟩, fun hm => ⟨by decide, ret 1 ?_⟩, fun hm => ⟨fun h0 => ⟨by decide, ret 3 ?_⟩, fun h0 => ⟨by omega, by omega, by omega, ⟨0, ⟨by omega, fun t ht => by simp at ht⟩, by omega⟩, fun y ⟨hy, hall⟩ => ⟨fun hlt2 => ?_, fun hge2 => ?_⟩⟩⟩⟩
      · have e : setE n l x = 1 := by unfold setE; rw [if_pos hm]
        rw [bad (by rw [e]; decide), e]
      · have e : setE n l x = 3 := by unfold setE; rw [if_neg (by rw [hm]; decide), if_pos h0]
        rw [bad (by rw [e]; decide), e]
      · have htl : (List.drop (Int.toNat 0) (List.take x l)) = List.take x l := rfl
        rw [htl] at hlt2 ⊢
        have hylt : y < (l.take x).length := by omega
        have hlx : (l.take x).length = x := by rw [List.length_take]; omega
        have hmm : ∀ j, j ≤ x → j < l.length → maskB (l.getD j 0) n = true := by
          intro j hj hjl
          rcases Nat.lt_or_ge j x with h1 | h1
          · have := hx3 j h1
            unfold setE at this
            split at this
            · cases this
            · rename_i h3; simpa using h3
          · have : j = x := by omega
            subst this; exact hm
        have pos : ∀ j, j ≤ x → j < l.length → 0 ≤ l.getD j 0 := by
          intro j h1 h2
          have := hmm j h1 h2
          unfold maskB at this
          simp only [Bool.and_eq_true, decide_eq_true_eq] at this
          exact this.1
        have hty : (l.take x).getD y 0 = l.getD y 0 := by
          rw [getD_at hylt, getD_at (by omega), List.getElem_take]
        refine ⟨by omega, hlt2, pos x (Nat.le_refl _) hxl, by rw [hty]; exact pos y (by omega) (by omega), fun hc => ⟨by decide, ret 6 ?_⟩, fun hc => ⟨inK_i64.2 (by omega), y + 1, ⟨by omega, fun t ht => ?_⟩, by omega, by omega⟩⟩
        · have hno : (l.take x).all (fun t => meetB (l.getD x 0) t) = false := by
            cases hcase : (l.take x).all (fun t => meetB (l.getD x 0) t) with
            | false => rfl
            | true =>
              have := List.all_eq_true.1 hcase _ (getD_mem hylt)
              unfold meetB at this
              exact absurd hc (of_decide_eq_true this)
          have e : setE n l x = 6 := by unfold setE; rw [if_neg (by rw [hm]; decide), if_neg h0, if_neg (by rw [hno]; decide)]
          rw [bad (by rw [e]; decide), e]
        · rw [take_snoc hylt] at ht
          rcases List.mem_append.1 ht with ht | ht
          · exact hall t ht
          · rw [List.mem_singleton.1 ht]
            exact decide_eq_true hc
      · have hlx : (l.take x).length = x := by rw [List.length_take]; omega
        have htl : (List.drop (Int.toNat 0) (List.take x l)) = List.take x l := rfl
        rw [htl] at hge2
        have hyx : y = (l.take x).length := by omega
        rw [hyx, List.take_length] at hall
        have e : setE n l x = 0 := by unfold setE; rw [if_neg (by rw [hm]; decide), if_neg h0, if_pos (List.all_eq_true.2 hall)]
        refine ⟨inK_i64.2 (by omega), x + 1, ⟨by rw [hx1', if_pos e], by omega, h, fun j hj => ?_⟩, by omega, by omega⟩
        rcases Nat.lt_or_ge j x with h1 | h1
        · exact hx3 j h1
        · have : j = x := by omega
          subst this; exact e
    · have : x = l.length := by omega
      rw [hx1, this, Nat.sub_self]; rfl

theorem okCheck : PlainOk Tryd.prog glT 20 cCheck := by
  refine plain_of (CxOk.mk' Et_ok rfl mixed (gl := glT) (GOk.cons okWithin Tryd.func39 (by kernel_rfl) (by kernel_rfl) (GOk.cons okMask Tryd.func43 (by kernel_rfl) (by kernel_rfl) GOk.nil)) GoOk.nil noIt) Tryd.func20 (c := Tryd.f20.body.getD .skip) (rvs := [(.tmp 4, tErr)]) (by kernel_rfl) (by kernel_rfl) (by kernel_rfl) ?_
  intro ds k ⟨hp, hk⟩ hwf
  obtain ⟨n, l, rfl, -⟩ := dest2 hp
  exact ⟨anCheck n l, check_vc n l k hk⟩

/-- Sets with which nothing is wrong. -/
structure Sets (n : Int) (l : List Int) : Prop where
  rng : 1 ≤ n ∧ n ≤ 8
  len : 0 < l.length ∧ l.length ≤ 20
  mem : ∀ s ∈ l, 0 < s ∧ s < 2 ^ n.toNat
  meet : ∀ s ∈ l, ∀ t ∈ l, s.toNat &&& t.toNat ≠ 0

theorem setsE_zero {n : Int} {l : List Int} : ∀ {f i : Nat}, setsE n l f i = 0 → ∀ j, i ≤ j → j < i + f → setE n l j = 0 := by
  intro f
  induction f with
  | zero => intro i _ j h1 h2; omega
  | succ f ih =>
    intro i h j h1 h2
    unfold setsE at h
    split at h
    · rename_i h0
      by_cases hj : j = i
      · rw [hj]; exact h0
      · exact ih h j (by omega) (by omega)
    · rename_i h0; exact absurd h h0

theorem setE_zero {n : Int} {l : List Int} {i : Nat} (h : setE n l i = 0) : (0 < l.getD i 0 ∧ l.getD i 0 < 2 ^ n.toNat) ∧ ∀ t ∈ l.take i, (l.getD i 0).toNat &&& t.toNat ≠ 0 := by
  unfold setE at h
  split at h
  · exact absurd h (by decide)
  · rename_i h1
    split at h
    · exact absurd h (by decide)
    · rename_i h2
      split at h
      · rename_i h3
        have hm : maskB (l.getD i 0) n = true := by simpa using h1
        unfold maskB at hm
        simp only [Bool.and_eq_true, decide_eq_true_eq] at hm
        refine ⟨⟨by omega, hm.2⟩, fun t ht => ?_⟩
        have := of_decide_eq_true (List.all_eq_true.1 h3 t ht)
        omega
      · exact absurd h (by decide)

theorem sets_of {n : Int} {l : List Int} (h : chkS n l = 0) : Sets n l := by
  unfold chkS at h
  split at h
  · exact absurd h (by decide)
  rename_i h1
  split at h
  · exact absurd h (by decide)
  rename_i h2
  split at h
  · exact absurd h (by decide)
  rename_i h3
  have hz : ∀ j, j < l.length → setE n l j = 0 := fun j hj => setsE_zero h j (by omega) (by omega)
  have hn : 1 ≤ n ∧ n ≤ 8 := by
    have : inB n 1 8 = true := by simpa using h1
    unfold inB at this; simpa using this
  have hmem : ∀ s ∈ l, 0 < s ∧ s < 2 ^ n.toNat := by
    intro s hs
    obtain ⟨i, hi, rfl⟩ := List.getElem_of_mem hs
    rw [← getD_at hi]
    exact (setE_zero (hz i hi)).1
  refine ⟨hn, ⟨by omega, by omega⟩, hmem, fun s hs t ht => ?_⟩
  obtain ⟨i, hi, rfl⟩ := List.getElem_of_mem hs
  obtain ⟨j, hj, rfl⟩ := List.getElem_of_mem ht
  rcases Nat.lt_trichotomy i j with h | h | h
  · have := (setE_zero (hz j hj)).2 l[i] (List.mem_take_iff_getElem.2 ⟨i, by omega, rfl⟩)
    rw [getD_at hj, Nat.and_comm] at this; exact this
  · subst h
    have := hmem _ hs
    rw [Nat.and_self]
    omega
  · have := (setE_zero (hz i hi)).2 l[j] (List.mem_take_iff_getElem.2 ⟨j, by omega, rfl⟩)
    rw [getD_at hi] at this; exact this

theorem mask_of {n v : Int} (h : maskB v n = true) : 0 ≤ v ∧ v < 2 ^ n.toNat := by
  unfold maskB at h; simpa using h
theorem mask_mk {n v : Int} (h0 : 0 ≤ v) (h : v < 2 ^ n.toNat) : maskB v n = true := by
  unfold maskB; simp [h0, h]

theorem chk_mk {n : Int} {l : List Int} (h : Sets n l) : chkS n l = 0 := by
  unfold chkS
  have h1 : inB n 1 8 = true := by have := h.rng; unfold inB; simp; omega
  rw [if_neg (by rw [h1]; decide), if_neg (by have := h.len; omega), if_neg (by have := h.len; omega)]
  have hz : ∀ i, i < l.length → setE n l i = 0 := by
    intro i hi
    have hm := h.mem _ (getD_mem hi)
    unfold setE
    rw [if_neg (by rw [mask_mk (by omega) hm.2]; decide), if_neg (by omega), if_pos]
    refine List.all_eq_true.2 fun t ht => decide_eq_true ?_
    have := h.meet _ (getD_mem hi) t (List.mem_of_mem_take ht)
    omega
  have key : ∀ f i, i + f = l.length → setsE n l f i = 0 := by
    intro f
    induction f with
    | zero => intro i _; rfl
    | succ f ih =>
      intro i hi
      unfold setsE
      rw [if_pos (hz i (by omega))]
      exact ih (i + 1) (by omega)
  exact key l.length 0 (by omega)

theorem okHas : PlainOk Tryd.prog glT 19 cHas := by
  refine plain_of (CxOk.mk' Et_ok rfl mixed (gl := glT) (GOk.cons okCheck Tryd.func20 (by kernel_rfl) (by kernel_rfl) (GOk.cons okMask Tryd.func43 (by kernel_rfl) (by kernel_rfl) (GOk.cons okHas0 Tryd.func42 (by kernel_rfl) (by kernel_rfl) GOk.nil))) GoOk.nil noIt) Tryd.func19 (c := Tryd.f19.body.getD .skip) (rvs := [(.tmp 6, .bool), (.tmp 7, tErr)]) (by kernel_rfl) (by kernel_rfl) (by kernel_rfl) ?_
  intro ds k ⟨hp, hk⟩ hwf
  obtain ⟨n, l, v, rfl, -⟩ := dest3 hp
  have hk : k [⟨.bool, if hasE n l v = 0 then hasB l v else false⟩, ⟨tErr, hasE n l v⟩] := hk
  refine ⟨[], ?_⟩
  rw [vcHas]
  simp only [decide_eq_false_iff_not, and_true, true_and, Bool.not_eq_true', Bool.not_eq_false']
  refine ⟨fun h => ?_, fun h => ?_⟩
  · have e : hasE n l v = chkS n l := by unfold hasE; rw [if_neg h]
    rw [e, if_neg h] at hk; exact hk
  · have h : chkS n l = 0 := by simpa using h
    have g := sets_of h
    have := g.rng
    refine ⟨⟨by omega, by omega⟩, fun hm => ⟨by decide, ?_⟩, fun hm => ⟨⟨(mask_of hm).1, fun s hs => by have := g.mem s hs; omega⟩, ?_⟩⟩
    · have e : hasE n l v = 1 := by unfold hasE; rw [if_pos h, if_neg (by rw [hm]; decide)]
      rw [e] at hk; exact hk
    · have e : hasE n l v = 0 := by unfold hasE; rw [if_pos h, if_pos hm]
      rw [e] at hk; exact hk

theorem firstP_at {p : Nat → Bool} {m x : Nat} (h : x < m) : firstP p (m - x) x = if p x = true then some x else firstP p (m - (x + 1)) (x + 1) := by
  obtain ⟨q, hq⟩ : ∃ q, m - x = q + 1 := ⟨m - x - 1, by omega⟩
  rw [hq, show m - (x + 1) = q by omega]; rfl

theorem pow8 {n : Int} (h : n ≤ 8) : (2 : Nat) ^ n.toNat ≤ 256 := Nat.pow_le_pow_right (n := 2) (by decide) (show n.toNat ≤ 8 by omega)
theorem powC (n : Nat) : (2 : Int) ^ n = ((2 ^ n : Nat) : Int) := by rw [Int.natCast_pow]; rfl

theorem full_vc (n : Int) (l : List Int) (k : List Dat → Prop) (hk : k [⟨.bool, (fullO n l).isNone⟩, ⟨I, (((fullO n l).getD 0 : Nat) : Int)⟩, ⟨tErr, chkS n l⟩]) :
    vcF ⟨Et, [(20, cCheck), (42, cHas0)], glT, [], []⟩ (anFull n l) (Tryd.f18.body.getD .skip) Tryd.f18.ntmps [(.tmp 4, .bool), (.tmp 5, I), (.tmp 6, tErr)] [⟨I, n⟩, ⟨.sl I, l⟩] k := by
  rw [vcFull]
  simp only [decide_eq_true_eq, decide_eq_false_iff_not, and_true, true_and, Bool.not_eq_true', Bool.not_eq_false']
  refine ⟨fun h => ?_, fun h => ?_⟩
  · have e : fullO n l = some 0 := by unfold fullO; rw [if_neg h]
    rw [e] at hk; exact hk
  · have g := sets_of h
    have hn := g.rng
    have hpw := pow8 hn.2
    have hpp := Nat.two_pow_pos n.toNat
    have hpc := powC n.toNat
    rw [h] at hk
    have ho : fullO n l = firstP (neither n l) (2 ^ n.toNat) 0 := by unfold fullO; rw [if_pos h]
    have hmem : ∀ s ∈ l, 0 ≤ s := fun s hs => by have := g.mem s hs; omega
    refine ⟨by omega, by omega, rfl, inK_i64.2 (by rw [hpc]; omega), ⟨0, ⟨by omega, ho, h⟩, rfl⟩, fun x ⟨hx, hxo, _⟩ => ⟨fun hlt => ?_, fun hge => ?_⟩⟩
    · have hxl : x < 2 ^ n.toNat := by rw [hpc] at hlt; omega
      rw [firstP_at hxl] at hxo
      have nxt : neither n l x = false → inK .i64 ((x : Int) + 1) ∧ ∃ x_1 : Nat, (x_1 ≤ 2 ^ n.toNat ∧ fullO n l = firstP (neither n l) (2 ^ n.toNat - x_1) x_1 ∧ chkS n l = 0) ∧ 2 ^ n.toNat - x_1 < 2 ^ n.toNat - x ∧ (x : Int) + 1 = (x_1 : Int) := by
        intro hne
        rw [if_neg (by rw [hne]; decide)] at hxo
        exact ⟨inK_i64.2 (by omega), x + 1, ⟨by omega, hxo, h⟩, by omega, by omega⟩
      refine ⟨⟨by omega, hmem⟩, fun ha => ⟨by omega, by omega, rfl, inK_i64.2 (by rw [hpc]; omega), inK_i64.2 (by rw [hpc]; omega), by rw [hpc]; omega, by omega, ⟨Int.natCast_nonneg _, hmem⟩, fun hb => ?_, fun hb => nxt ?_⟩, fun ha => nxt ?_⟩
      · have e : neither n l x = true := by
          unfold neither complN
          rw [ha, hb]; rfl
        rw [hxo, if_pos e] at hk; exact hk
      · unfold neither complN
        rw [ha, hb]; rfl
      · unfold neither
        rw [ha]; rfl
    · have : x = 2 ^ n.toNat := by rw [hpc] at hge; omega
      rw [hxo, this, Nat.sub_self] at hk
      exact hk

theorem okFull : PlainOk Tryd.prog glT 18 cFull := by
  refine plain_of (CxOk.mk' Et_ok rfl mixed (gl := glT) (GOk.cons okCheck Tryd.func20 (by kernel_rfl) (by kernel_rfl) (GOk.cons okHas0 Tryd.func42 (by kernel_rfl) (by kernel_rfl) GOk.nil)) GoOk.nil noIt) Tryd.func18 (c := Tryd.f18.body.getD .skip) (rvs := [(.tmp 4, .bool), (.tmp 5, I), (.tmp 6, tErr)]) (by kernel_rfl) (by kernel_rfl) (by kernel_rfl) ?_
  intro ds k ⟨hp, hk⟩ hwf
  obtain ⟨n, l, rfl, -⟩ := dest2 hp
  exact ⟨anFull n l, full_vc n l k hk⟩

theorem leastU_succ (l : List Int) (k : Nat) : leastU l (k + 1) = leastU l k ++ (if leastB l (k : Int) = true then [(k : Int)] else []) := by
  unfold leastU
  rw [List.range_succ, List.map_append, List.filter_append]
  congr 1
  cases h : leastB l (k : Int) <;> simp [h]
theorem leastU_len (l : List Int) (k : Nat) : (leastU l k).length ≤ k := by
  unfold leastU
  exact Nat.le_trans (List.length_filter_le _ _) (by simp)

theorem least_vc (n : Int) (l : List Int) (k : List Dat → Prop) (hk : k [⟨.sl I, if chkS n l = 0 then leastU l (2 ^ n.toNat) else []⟩, ⟨tErr, chkS n l⟩]) :
    vcF ⟨Et2, [(20, cCheck), (44, cCon), (45, cConF 46 lstB)], glT, [], []⟩ (anLeast n l) (Tryd.f21.body.getD .skip) Tryd.f21.ntmps [(.tmp 4, .sl I), (.tmp 5, tErr)] [⟨I, n⟩, ⟨.sl I, l⟩] k := by
  rw [vcLeast]
  simp only [decide_eq_true_eq, decide_eq_false_iff_not, and_true, true_and, Bool.not_eq_true', Bool.not_eq_false']
  refine ⟨fun h => ?_, fun h => ?_⟩
  · rw [if_neg h] at hk; exact hk
  · have g := sets_of h
    have hn := g.rng
    have hpw := pow8 hn.2
    have hpp := Nat.two_pow_pos n.toNat
    have hpc := powC n.toNat
    rw [if_pos h, h] at hk
    have hmem : ∀ s ∈ l, 0 ≤ s := fun s hs => by have := g.mem s hs; omega
    refine ⟨by omega, by omega, rfl, inK_i64.2 (by rw [hpc]; omega), ⟨0, ⟨by omega, h⟩, rfl, rfl⟩, fun x ⟨hx, _⟩ => ⟨fun hlt => ?_, fun hge => ?_⟩⟩
    · have hxl : x < 2 ^ n.toNat := by rw [hpc] at hlt; omega
      have hlen := leastU_len l x
      refine ⟨fun ha => ⟨⟨⟨(x : Int), rfl, by omega⟩, hmem⟩, fun hb => ⟨by simp only [List.replicate, List.set, List.length_cons, List.length_nil]; omega, inK_i64.2 (by omega), x + 1, ⟨by omega, h⟩, by omega, by omega, ?_⟩, fun hb => ⟨inK_i64.2 (by omega), x + 1, ⟨by omega, h⟩, by omega, by omega, ?_⟩⟩, fun ha => ⟨inK_i64.2 (by omega), x + 1, ⟨by omega, h⟩, by omega, by omega, ?_⟩⟩
      · have e : leastB l (x : Int) = true := by unfold leastB; rw [ha, hb]; rfl
        rw [leastU_succ, if_pos e]; rfl
      · have e : leastB l (x : Int) = false := by unfold leastB; rw [ha, hb]; rfl
        rw [leastU_succ, if_neg (by rw [e]; decide), List.append_nil]
      · have e : leastB l (x : Int) = false := by unfold leastB; rw [ha]; rfl
        rw [leastU_succ, if_neg (by rw [e]; decide), List.append_nil]
    · have : x = 2 ^ n.toNat := by rw [hpc] at hge; omega
      rw [this]
      exact hk

theorem okLeast : PlainOk Tryd.prog glT 21 cLeast := by
  refine plain_of (CxOk.mk' Et2_ok rfl mixed (gl := glT) (GOk.cons okCheck Tryd.func20 (by kernel_rfl) (by kernel_rfl) (GOk.cons okCon Tryd.func44 (by kernel_rfl) (by kernel_rfl) (GOk.cons okConB Tryd.func45 (by kernel_rfl) (by kernel_rfl) GOk.nil))) GoOk.nil noIt) Tryd.func21 (c := Tryd.f21.body.getD .skip) (rvs := [(.tmp 4, .sl I), (.tmp 5, tErr)]) (by kernel_rfl) (by kernel_rfl) (by kernel_rfl) ?_
  intro ds k ⟨hp, hk⟩ hwf
  obtain ⟨n, l, rfl, -⟩ := dest2 hp
  exact ⟨anLeast n l, least_vc n l k hk⟩
end Go.Proofs.YtlopkkoenfngiaaDoor

/- What the functions of this seat have to satisfy, by program: each verification condition in plain words. -/
namespace Go.Proofs.YtlopkkoenfngiaaDoor
open Go.Vc
set_option linter.unusedVariables false
theorem vcBits (s : Int) (k : List Dat → Prop) : vcF ⟨Et, [], glT, [], []⟩ anBits (Tryd.f41.body.getD .skip) Tryd.f41.ntmps [(.tmp 2, tB)] [⟨I, s⟩] k = (
  k [Dat.mk (Ty.fn (54 : Nat) ((I).ptr.pr Ty.un)) (some (some s, ()))]) := by kernel_rfl
theorem vcSumW (s : Int) (w : List Int) (k : List Dat → Prop) : vcF ⟨Et, [(41, cBitsF)], glT, [(54, cBits)], []⟩ (anSumW w) (Tryd.f40.body.getD .skip) Tryd.f40.ntmps [(.cell 3 3, I)] [⟨I, s⟩, ⟨.ptr (.sl I), some w⟩] k = (
  True ∧ (∃ (x : List Int), True ∧ x = [] ∧ (some w = some w ∧ ([] : List Nat) = [] ∧ some (some s, ()) = some (some s, ()) ∧ True) ∧ (((3 : Nat) = (3 : Nat) ∧ (0 : Int) = sumL w x) ∧ True) ∧ tabD = tabD ∧ True) ∧ (∀ (x : List Int), True → some (some s, ()) = some (some s, ())) ∧ (∀ (x : List Int) (y : Int) (rest : List Int), True → bitsOf s = x ++ y :: rest → (0 : Int) ≤ y ∧ y < (↑w.length : Int) ∧ inK IntKind.i64 (sumL w x + w.getD y.toNat (0 : Int)) ∧ ∃ (x_1 : List Int), True ∧ x_1 = x ++ [y] ∧ (some w = some w ∧ ([] : List Nat) = [] ∧ some (some s, ()) = some (some s, ()) ∧ True) ∧ (((3 : Nat) = (3 : Nat) ∧ sumL w x + w.getD y.toNat (0 : Int) = sumL w x_1) ∧ True) ∧ tabD = tabD ∧ True) ∧ ∀ (x : List Int), True → x = bitsOf s → k [Dat.mk (I) (sumL w x)]) := by kernel_rfl
theorem vcSumL (l : List Int) (k : List Dat → Prop) : vcF ⟨Et, [], glT, [], []⟩ (anSum l) (Tryd.f17.body.getD .skip) Tryd.f17.ntmps [(.tmp 2, I)] [⟨.sl I, l⟩] k = (
  (∃ (x : Nat), x.le l.length ∧ (l = l ∧ (0 : Int) = (0 : Int) ∧ (0 : Int) = (List.take x l).sum ∧ (0 : Int) = (↑x : Int) ∧ True) ∧ True ∧ tabD = tabD ∧ True) ∧ ∀ (x : Nat), x.le l.length → (decide ((↑x : Int) < (↑l.length : Int)) = true → (0 : Int) ≤ (↑x : Int) ∧ (↑x : Int) < (↑l.length : Int) ∧ inK IntKind.i64 ((List.take x l).sum + l.getD (↑x : Int).toNat (0 : Int)) ∧ inK IntKind.i64 ((↑x : Int) + (1 : Int)) ∧ ∃ (x_1 : Nat), x_1.le l.length ∧ l.length - x_1 < l.length - x ∧ (l = l ∧ (0 : Int) = (0 : Int) ∧ (List.take x l).sum + l.getD (↑x : Int).toNat (0 : Int) = (List.take x_1 l).sum ∧ (↑x : Int) + (1 : Int) = (↑x_1 : Int) ∧ True) ∧ True ∧ tabD = tabD ∧ True) ∧ (decide ((↑x : Int) < (↑l.length : Int)) = false → k [Dat.mk (I) (List.take x l).sum])) := by kernel_rfl
theorem vcVotes (w : List Int) (need : Int) (k : List Dat → Prop) : vcF ⟨Et, [(39, cWithin), (41, cBitsF), (40, cSumW)], glT, [(54, cBits)], []⟩ (anVotes w need) (Tryd.f13.body.getD .skip) Tryd.f13.ntmps [(.tmp 4, .sl I), (.tmp 5, tErr)] [⟨.sl I, w⟩, ⟨I, need⟩] k = (
  (decide ((↑w.length : Int) = (0 : Int)) = true → (5 : Int) ≠ (0 : Int) ∧ k [Dat.mk (I).sl [], Dat.mk (Ty.err (58 : Nat)) (5 : Int)]) ∧ (decide ((↑w.length : Int) = (0 : Int)) = false → (decide ((8 : Int) < (↑w.length : Int)) = true → (4 : Int) ≠ (0 : Int) ∧ k [Dat.mk (I).sl [], Dat.mk (Ty.err (58 : Nat)) (4 : Int)]) ∧ (decide ((8 : Int) < (↑w.length : Int)) = false → (∃ (x : Nat), (x ≤ w.length ∧ (0 : Nat) < w.length ∧ w.length ≤ (8 : Nat) ∧ ∀ (x_1 : Int), x_1 ∈ List.take x w → inB x_1 (0 : Int) (20 : Int) = true) ∧ (([] : List Nat) = [] ∧ ([] : List Nat) = [] ∧ True ∧ (0 : Int) = (0 : Int) ∧ (↑w.length : Int) = (↑w.length : Int) ∧ (0 : Int) = (List.take x w).sum ∧ w = w ∧ (↑w.length : Int) = (↑w.length : Int) ∧ (0 : Int) = (↑x : Int) ∧ True) ∧ (((22 : Nat) = (22 : Nat) ∧ w = w) ∧ ((3 : Nat) = (3 : Nat) ∧ need = need) ∧ True) ∧ tabD = tabD ∧ True) ∧ ∀ (x : Nat), (x ≤ w.length ∧ (0 : Nat) < w.length ∧ w.length ≤ (8 : Nat) ∧ ∀ (x_1 : Int), x_1 ∈ List.take x w → inB x_1 (0 : Int) (20 : Int) = true) → (decide ((↑x : Int) < (↑w.length : Int)) = true → (0 : Int) ≤ (↑x : Int) ∧ (↑x : Int) < (↑w.length : Int) ∧ True ∧ ((!inB (w.getD (↑x : Int).toNat (0 : Int)) (0 : Int) (20 : Int)) = true → (1 : Int) ≠ (0 : Int) ∧ k [Dat.mk (I).sl [], Dat.mk (Ty.err (58 : Nat)) (1 : Int)]) ∧ ((!inB (w.getD (↑x : Int).toNat (0 : Int)) (0 : Int) (20 : Int)) = false → inK IntKind.i64 ((List.take x w).sum + w.getD (↑x : Int).toNat (0 : Int)) ∧ inK IntKind.i64 ((↑x : Int) + (1 : Int)) ∧ ∃ (x_1 : Nat), (x_1 ≤ w.length ∧ (0 : Nat) < w.length ∧ w.length ≤ (8 : Nat) ∧ ∀ (x : Int), x ∈ List.take x_1 w → inB x (0 : Int) (20 : Int) = true) ∧ w.length - x_1 < w.length - x ∧ (([] : List Nat) = [] ∧ ([] : List Nat) = [] ∧ True ∧ (0 : Int) = (0 : Int) ∧ (↑w.length : Int) = (↑w.length : Int) ∧ (List.take x w).sum + w.getD (↑x : Int).toNat (0 : Int) = (List.take x_1 w).sum ∧ w = w ∧ (↑w.length : Int) = (↑w.length : Int) ∧ (↑x : Int) + (1 : Int) = (↑x_1 : Int) ∧ True) ∧ (((22 : Nat) = (22 : Nat) ∧ w = w) ∧ ((3 : Nat) = (3 : Nat) ∧ need = need) ∧ True) ∧ tabD = tabD ∧ True)) ∧ (decide ((↑x : Int) < (↑w.length : Int)) = false → True ∧ ((!inB need (1 : Int) (List.take x w).sum) = true → (1 : Int) ≠ (0 : Int) ∧ k [Dat.mk (I).sl [], Dat.mk (Ty.err (58 : Nat)) (1 : Int)]) ∧ ((!inB need (1 : Int) (List.take x w).sum) = false → inK IntKind.i64 ((2 : Int) * need) ∧ (decide ((2 : Int) * need ≤ (List.take x w).sum) = true → (6 : Int) ≠ (0 : Int) ∧ k [Dat.mk (I).sl [], Dat.mk (Ty.err (58 : Nat)) (6 : Int)]) ∧ (decide ((2 : Int) * need ≤ (List.take x w).sum) = false → (0 : Int) ≤ (↑w.length : Int) ∧ (↑w.length : Int) < (64 : Int) ∧ IntKind.i64.bits = (64 : Nat) ∧ inK IntKind.i64 ((1 : Int) * (2 : Int) ^ (↑w.length : Int).toNat) ∧ (∃ (x : Nat), (x ≤ (2 : Nat) ^ w.length ∧ votesE w need = (0 : Int)) ∧ (([] : List Nat) = [] ∧ True ∧ (0 : Int) = (0 : Int) ∧ (↑w.length : Int) = (↑w.length : Int) ∧ ([] : List Nat) = [] ∧ True ∧ (1 : Int) * (2 : Int) ^ (↑w.length : Int).toNat = (1 : Int) * (2 : Int) ^ (↑w.length : Int).toNat ∧ (0 : Int) = (↑x : Int) ∧ True) ∧ (((3 : Nat) = (3 : Nat) ∧ need = need) ∧ ((28 : Nat) = (28 : Nat) ∧ some (some w, ()) = some (some w, ())) ∧ ((3 : Nat) = (3 : Nat) ∧ [] = votesU w need x) ∧ True) ∧ tabD = tabD ∧ True) ∧ ∀ (x : Nat), x ≤ (2 : Nat) ^ w.length ∧ votesE w need = (0 : Int) → (decide ((↑x : Int) < (1 : Int) * (2 : Int) ^ (↑w.length : Int).toNat) = true → (∃ (w_1 : List Int), some w = some w_1 ∧ wOk w_1 ∧ (0 : Int) ≤ (↑x : Int) ∧ (↑x : Int) < (2 : Int) ^ w_1.length) ∧ (∃ (w_1 : List Int), some w = some w_1 ∧ wOk w_1 ∧ (0 : Int) ≤ (↑x : Int) ∧ (↑x : Int) < (2 : Int) ^ w_1.length) ∧ (SV.pv (I) (1 : Nat) [] = SV.pv (I) (1 : Nat) [] ∧ SV.nils = SV.nils ∧ (0 : Int) = (0 : Int) ∧ (↑w.length : Int) = (↑w.length : Int) ∧ SV.pv (Ty.fn (40 : Nat) ((I).sl.ptr.pr Ty.un)) (2 : Nat) [] = SV.pv (Ty.fn (40 : Nat) ((I).sl.ptr.pr Ty.un)) (2 : Nat) [] ∧ SV.os (3 : Nat) = SV.os (3 : Nat) ∧ SV.pv (I) (4 : Nat) [] = SV.pv (I) (4 : Nat) [] ∧ (1 : Int) * (2 : Int) ^ (↑w.length : Int).toNat = (1 : Int) * (2 : Int) ^ (↑w.length : Int).toNat ∧ (↑x : Int) = (↑x : Int) ∧ decide ((↑x : Int) < (1 : Int) * (2 : Int) ^ (↑w.length : Int).toNat) = decide ((↑x : Int) < (1 : Int) * (2 : Int) ^ (↑w.length : Int).toNat) ∧ (↑x : Int) = (↑x : Int) ∧ some (some w, ()) = some (some w, ()) ∧ (↑x : Int) = (↑x : Int) ∧ sumW w (↑x : Int) = sumW w (↑x : Int) ∧ need = need ∧ decide (need ≤ sumW w (↑x : Int)) = decide (need ≤ sumW w (↑x : Int)) ∧ True) ∧ True ∧ (∃ (x_1 : List Int), True ∧ x_1 = [] ∧ (([] : List Nat) = [] ∧ True ∧ (0 : Int) = (0 : Int) ∧ (↑w.length : Int) = (↑w.length : Int) ∧ ([] : List Nat) = [] ∧ True ∧ ([] : List Nat) = [] ∧ ([] : List Nat) = [] ∧ (1 : Int) * (2 : Int) ^ (↑w.length : Int).toNat = (1 : Int) * (2 : Int) ^ (↑w.length : Int).toNat ∧ (↑x : Int) = (↑x : Int) ∧ some (some (↑x : Int), ()) = some (some (↑x : Int), ()) ∧ True) ∧ (((3 : Nat) = (3 : Nat) ∧ need = need) ∧ ((28 : Nat) = (28 : Nat) ∧ some (some w, ()) = some (some w, ())) ∧ ((3 : Nat) = (3 : Nat) ∧ votesU w need x = votesU w need x) ∧ ((3 : Nat) = (3 : Nat) ∧ (↑x : Int) = (↑x : Int)) ∧ ((4 : Nat) = (4 : Nat) ∧ decide (need ≤ sumW w (↑x : Int)) = lowL w need (↑x : Int) x_1) ∧ True) ∧ tabD = tabD ∧ True) ∧ (∀ (x_1 : List Int), True → some (some (↑x : Int), ()) = some (some (↑x : Int), ())) ∧ (∀ (x_1 : List Int) (y : Int) (rest : List Int), True → bitsOf (↑x : Int) = x_1 ++ y :: rest → ((lowL w need (↑x : Int) x_1 = true → (0 : Int) ≤ y ∧ y < (64 : Int) ∧ IntKind.i64.bits = (64 : Nat) ∧ inK IntKind.i64 ((1 : Int) * (2 : Int) ^ y.toNat) ∧ (0 : Int) ≤ (↑x : Int) ∧ (0 : Int) ≤ (1 : Int) * (2 : Int) ^ y.toNat ∧ (∃ (w_1 : List Int), some w = some w_1 ∧ wOk w_1 ∧ (0 : Int) ≤ (↑((↑x : Int).toNat ^^^ (↑x : Int).toNat &&& ((1 : Int) * (2 : Int) ^ y.toNat).toNat) : Int) ∧ (↑((↑x : Int).toNat ^^^ (↑x : Int).toNat &&& ((1 : Int) * (2 : Int) ^ y.toNat).toNat) : Int) < (2 : Int) ^ w_1.length) ∧ True) ∧ (lowL w need (↑x : Int) x_1 = false → True)) ∧ ∃ (x_2 : List Int), True ∧ x_2 = x_1 ++ [y] ∧ (([] : List Nat) = [] ∧ True ∧ (0 : Int) = (0 : Int) ∧ (↑w.length : Int) = (↑w.length : Int) ∧ ([] : List Nat) = [] ∧ True ∧ ([] : List Nat) = [] ∧ ([] : List Nat) = [] ∧ (1 : Int) * (2 : Int) ^ (↑w.length : Int).toNat = (1 : Int) * (2 : Int) ^ (↑w.length : Int).toNat ∧ (↑x : Int) = (↑x : Int) ∧ some (some (↑x : Int), ()) = some (some (↑x : Int), ()) ∧ True) ∧ (((3 : Nat) = (3 : Nat) ∧ need = need) ∧ ((28 : Nat) = (28 : Nat) ∧ some (some w, ()) = some (some w, ())) ∧ ((3 : Nat) = (3 : Nat) ∧ votesU w need x = votesU w need x) ∧ ((3 : Nat) = (3 : Nat) ∧ (↑x : Int) = (↑x : Int)) ∧ ((4 : Nat) = (4 : Nat) ∧ (lowL w need (↑x : Int) x_1 && decide (sumW w (↑((↑x : Int).toNat ^^^ (↑x : Int).toNat &&& ((1 : Int) * (2 : Int) ^ y.toNat).toNat) : Int) < need)) = lowL w need (↑x : Int) x_2) ∧ True) ∧ tabD = tabD ∧ True) ∧ ∀ (x_1 : List Int), True → x_1 = bitsOf (↑x : Int) → (lowL w need (↑x : Int) x_1 = true → (votesU w need x).length + ((List.replicate (1 : Nat) (0 : Int)).set (0 : Nat) (↑x : Int)).length ≤ (1000000000 : Nat) ∧ inK IntKind.i64 ((↑x : Int) + (1 : Int)) ∧ ∃ (x_2 : Nat), (x_2 ≤ (2 : Nat) ^ w.length ∧ votesE w need = (0 : Int)) ∧ (2 : Nat) ^ w.length - x_2 < (2 : Nat) ^ w.length - x ∧ (([] : List Nat) = [] ∧ True ∧ (0 : Int) = (0 : Int) ∧ (↑w.length : Int) = (↑w.length : Int) ∧ ([] : List Nat) = [] ∧ True ∧ (1 : Int) * (2 : Int) ^ (↑w.length : Int).toNat = (1 : Int) * (2 : Int) ^ (↑w.length : Int).toNat ∧ (↑x : Int) + (1 : Int) = (↑x_2 : Int) ∧ True) ∧ (((3 : Nat) = (3 : Nat) ∧ need = need) ∧ ((28 : Nat) = (28 : Nat) ∧ some (some w, ()) = some (some w, ())) ∧ ((3 : Nat) = (3 : Nat) ∧ (votesU w need x).append ((List.replicate (1 : Nat) (0 : Int)).set (0 : Nat) (↑x : Int)) = votesU w need x_2) ∧ True) ∧ tabD = tabD ∧ True) ∧ (lowL w need (↑x : Int) x_1 = false → inK IntKind.i64 ((↑x : Int) + (1 : Int)) ∧ ∃ (x_2 : Nat), (x_2 ≤ (2 : Nat) ^ w.length ∧ votesE w need = (0 : Int)) ∧ (2 : Nat) ^ w.length - x_2 < (2 : Nat) ^ w.length - x ∧ (([] : List Nat) = [] ∧ True ∧ (0 : Int) = (0 : Int) ∧ (↑w.length : Int) = (↑w.length : Int) ∧ ([] : List Nat) = [] ∧ True ∧ (1 : Int) * (2 : Int) ^ (↑w.length : Int).toNat = (1 : Int) * (2 : Int) ^ (↑w.length : Int).toNat ∧ (↑x : Int) + (1 : Int) = (↑x_2 : Int) ∧ True) ∧ (((3 : Nat) = (3 : Nat) ∧ need = need) ∧ ((28 : Nat) = (28 : Nat) ∧ some (some w, ()) = some (some w, ())) ∧ ((3 : Nat) = (3 : Nat) ∧ votesU w need x = votesU w need x_2) ∧ True) ∧ tabD = tabD ∧ True)) ∧ (decide ((↑x : Int) < (1 : Int) * (2 : Int) ^ (↑w.length : Int).toNat) = false → k [Dat.mk (I).sl (votesU w need x), Dat.mk (Ty.err (58 : Nat)) (0 : Int)]))))))) := by kernel_rfl
end Go.Proofs.YtlopkkoenfngiaaDoor

/- Quorums: votes. -/
namespace Go.Proofs.YtlopkkoenfngiaaDoor
open Go.Vc

theorem okBits : PlainOk Tryd.prog glT 41 cBitsF := by
  refine plain_of (CxOk.mk' Et_ok rfl mixed (gl := glT) GOk.nil GoOk.nil noIt) Tryd.func41 (c := Tryd.f41.body.getD .skip) (rvs := [(.tmp 2, tB)]) (by kernel_rfl) (by kernel_rfl) (by kernel_rfl) ?_
  intro ds k ⟨hp, hk⟩ hwf
  obtain ⟨s, rfl, -⟩ := dest1 hp
  refine ⟨anBits, ?_⟩
  rw [vcBits]
  exact hk
theorem itB : ∀ g c, (g, c) ∈ [(54, cBits)] → ItOk Tryd.prog glT g c := fun g c h => by
  obtain ⟨rfl, rfl⟩ := Prod.mk.inj (List.mem_singleton.1 h)
  exact itBits

theorem bitsOf_mem {N : Nat} (hN : N < 2 ^ 64) (y : Int) : y ∈ bitsOf (N : Int) ↔ ∃ i : Nat, y = (i : Int) ∧ N.testBit i = true := by
  have e : ((N : Int) % 18446744073709551616).toNat = N := by
    have : N < 18446744073709551616 := hN
    omega
  unfold bitsOf bitsN
  rw [e]
  constructor
  · intro h
    obtain ⟨i, hi, rfl⟩ := List.mem_map.1 h
    exact ⟨i, rfl, (List.mem_filter.1 hi).2⟩
  · rintro ⟨i, rfl, hi⟩
    refine List.mem_map.2 ⟨i, List.mem_filter.2 ⟨List.mem_range'_1.2 ⟨by omega, ?_⟩, hi⟩, rfl⟩
    rcases Nat.lt_or_ge i 64 with h | h
    · omega
    · have := Nat.testBit_lt_two_pow (Nat.lt_of_lt_of_le hN (Nat.pow_le_pow_right (by omega) h))
      rw [this] at hi; cases hi
theorem bitsOf_len (s : Int) : (bitsOf s).length ≤ 64 := by
  unfold bitsOf bitsN
  rw [List.length_map]
  exact Nat.le_trans (List.length_filter_le _ _) (by simp)
theorem sumL_snoc (w l : List Int) (y : Int) : sumL w (l ++ [y]) = sumL w l + w.getD y.toNat 0 := by
  unfold sumL
  rw [List.map_append, List.sum_append]; simp
theorem w_at {w : List Int} (h : wOk w) (i : Nat) : 0 ≤ w.getD i 0 ∧ w.getD i 0 ≤ 20 := by
  rcases Nat.lt_or_ge i w.length with hi | hi
  · exact h.2 _ (getD_mem hi)
  · rw [List.getD_eq_getElem?_getD, List.getElem?_eq_none hi]; decide
theorem sumL_bd {w : List Int} (h : wOk w) : ∀ l : List Int, 0 ≤ sumL w l ∧ sumL w l ≤ 20 * (l.length : Int) := by
  intro l
  induction l with
  | nil => simp [sumL]
  | cons a r ih =>
    have e : sumL w (a :: r) = w.getD a.toNat 0 + sumL w r := by simp [sumL]
    have := w_at h a.toNat
    rw [e, List.length_cons]
    omega
theorem bit_pos {s : Int} {n : Nat} (h0 : 0 ≤ s) (hs : s < 2 ^ n) (hn : n ≤ 62) {y : Int} (hy : y ∈ bitsOf s) : 0 ≤ y ∧ y < (n : Int) ∧ s.toNat.testBit y.toNat = true := by
  obtain ⟨N, rfl⟩ := Int.eq_ofNat_of_zero_le h0
  have hs' : N < 2 ^ n := by rw [powC] at hs; omega
  have hN : N < 2 ^ 64 := Nat.lt_of_lt_of_le hs' (Nat.pow_le_pow_right (by decide) (by omega))
  obtain ⟨i, rfl, hi⟩ := (bitsOf_mem hN y).1 hy
  refine ⟨by omega, ?_, by simpa using hi⟩
  rcases Nat.lt_or_ge i n with h | h
  · omega
  · have := Nat.testBit_lt_two_pow (Nat.lt_of_lt_of_le hs' (Nat.pow_le_pow_right (by decide) h))
    rw [this] at hi; cases hi

theorem okSumW : PlainOk Tryd.prog glT 40 cSumW := by
  refine plain_of (CxOk.mk' Et_ok rfl mixed (gl := glT) (GOk.cons okBits Tryd.func41 (by kernel_rfl) (by kernel_rfl) GOk.nil) GoOk.nil itB) Tryd.func40 (c := Tryd.f40.body.getD .skip) (rvs := [(.cell 3 3, I)]) (by kernel_rfl) (by kernel_rfl) (by kernel_rfl) ?_
  intro ds k ⟨hp, hk⟩ hwf
  obtain ⟨s, p, rfl, w, rfl, hw, h0, hs⟩ := dest2 hp
  have hk : k [⟨I, sumL w (bitsOf s)⟩] := hk
  refine ⟨anSumW w, ?_⟩
  rw [vcSumW]
  simp only [and_true, true_and]
  refine ⟨⟨[], rfl, rfl⟩, fun _ _ => trivial, fun x y rest _ hx => ?_, fun x _ hx => by rw [hx]; exact hk⟩
  have hy : y ∈ bitsOf s := by rw [hx]; exact List.mem_append_right _ (.head _)
  obtain ⟨b1, b2, -⟩ := bit_pos h0 hs (by have := hw.1; omega) hy
  have hl := bitsOf_len s
  rw [hx, List.length_append, List.length_cons] at hl
  have h1 := sumL_bd hw x
  have h2 := w_at hw y.toNat
  exact ⟨b1, b2, inK_i64.2 (by omega), x ++ [y], rfl, (sumL_snoc w x y).symm⟩

theorem sum_bd : ∀ {l : List Int}, (∀ x ∈ l, 0 ≤ x ∧ x ≤ 20) → 0 ≤ l.sum ∧ l.sum ≤ 20 * (l.length : Int) := by
  intro l
  induction l with
  | nil => simp
  | cons a r ih =>
    intro h
    have h1 := h a (.head _)
    have h2 := ih fun x hx => h x (.tail _ hx)
    rw [List.sum_cons, List.length_cons]
    omega
theorem sum_snoc {l : List Int} {x : Nat} (h : x < l.length) : (l.take (x + 1)).sum = (l.take x).sum + l.getD x 0 := by
  rw [take_snoc h, List.sum_append]; simp

theorem okSumL : PlainOk Tryd.prog glT 17 cSumL := by
  refine plain_of (CxOk.mk' Et_ok rfl mixed (gl := glT) GOk.nil GoOk.nil noIt) Tryd.func17 (c := Tryd.f17.body.getD .skip) (rvs := [(.tmp 2, I)]) (by kernel_rfl) (by kernel_rfl) (by kernel_rfl) ?_
  intro ds k ⟨hp, hk⟩ hwf
  obtain ⟨l, rfl, hl, hlen⟩ := dest1 hp
  have hk : k [⟨I, l.sum⟩] := hk
  refine ⟨anSum l, ?_⟩
  rw [vcSumL]
  simp only [Nat.le_eq, decide_eq_true_eq, decide_eq_false_iff_not, and_true, true_and, Int.toNat_natCast]
  refine ⟨⟨0, by omega, by simp⟩, fun x hx => ⟨fun hlt => ?_, fun hge => ?_⟩⟩
  · have hxl : x < l.length := by omega
    have h1 := sum_bd (l := l.take x) fun y hy => hl y (List.mem_of_mem_take hy)
    have h2 := hl _ (getD_mem hxl)
    have h3 : (l.take x).length ≤ 8 := by rw [List.length_take]; omega
    exact ⟨by omega, hlt, inK_i64.2 (by omega), inK_i64.2 (by omega), x + 1, by omega, by omega, (sum_snoc hxl).symm, by omega⟩
  · rw [List.take_of_length_le (by omega)]; exact hk

theorem lessI_lt {s y : Int} {n : Nat} (h0 : 0 ≤ s) (hs : s < 2 ^ n) : 0 ≤ lessI s y ∧ lessI s y < 2 ^ n := by
  obtain ⟨N, rfl⟩ := Int.eq_ofNat_of_zero_le h0
  have hs' : N < 2 ^ n := by rw [powC] at hs; omega
  refine ⟨Int.natCast_nonneg _, ?_⟩
  unfold lessI
  rw [powC n, Int.toNat_natCast]
  exact Int.ofNat_lt.2 (Nat.xor_lt_two_pow hs' (Nat.lt_of_le_of_lt Nat.and_le_left hs'))
theorem lowL_snoc (w : List Int) (need s : Int) (l : List Int) (y : Int) : lowL w need s (l ++ [y]) = (lowL w need s l && decide (sumW w (lessI s y) < need)) := by
  unfold lowL
  rw [List.all_append]
  simp [Bool.and_assoc]
theorem votesU_succ (w : List Int) (need : Int) (k : Nat) : votesU w need (k + 1) = votesU w need k ++ (if lowB w need (k : Int) = true then [(k : Int)] else []) := by
  unfold votesU
  rw [List.range_succ, List.map_append, List.filter_append]
  congr 1
  cases h : lowB w need (k : Int) <;> simp [h]
theorem votesU_len (w : List Int) (need : Int) (k : Nat) : (votesU w need k).length ≤ k := by
  unfold votesU
  exact Nat.le_trans (List.length_filter_le _ _) (by simp)
theorem inB_of {x lo hi : Int} (h : inB x lo hi = true) : lo ≤ x ∧ x ≤ hi := by unfold inB at h; simpa using h

theorem votes_vc (w : List Int) (need : Int) (k : List Dat → Prop) (hk : k [⟨.sl I, votesL w need⟩, ⟨tErr, votesE w need⟩]) :
    vcF ⟨Et, [(39, cWithin), (41, cBitsF), (40, cSumW)], glT, [(54, cBits)], []⟩ (anVotes w need) (Tryd.f13.body.getD .skip) Tryd.f13.ntmps [(.tmp 4, .sl I), (.tmp 5, tErr)] [⟨.sl I, w⟩, ⟨I, need⟩] k := by
  rw [vcVotes]
  simp only [decide_eq_true_eq, decide_eq_false_iff_not, and_true, true_and, Bool.not_eq_true', Bool.not_eq_false', Int.toNat_natCast]
  have bad : ∀ e : Int, e ≠ 0 → votesE w need = e → e ≠ 0 ∧ k [⟨.sl I, ([] : List Int)⟩, ⟨tErr, e⟩] := by
    intro e h0 he
    refine ⟨h0, ?_⟩
    unfold votesL at hk
    rw [he, if_neg h0] at hk; exact hk
  refine ⟨fun h => bad 5 (by decide) ?_, fun h0 => ⟨fun h => bad 4 (by decide) ?_, fun h8 => ⟨⟨0, ⟨by omega, by omega, by omega, fun y hy => by simp at hy⟩, by simp⟩, fun x ⟨hx, _, _, hall⟩ => ⟨fun hlt => ?_, fun hge => ?_⟩⟩⟩⟩
  · unfold votesE; rw [if_pos (by omega)]
  · unfold votesE; rw [if_neg (by omega), if_pos (by omega)]
  · have hxl : x < w.length := by omega
    refine ⟨by omega, hlt, fun hb => bad 1 (by decide) ?_, fun hb => ?_⟩
    · have : w.all (fun x => inB x 0 20) = false := by
        cases hc : w.all (fun x => inB x 0 20) with
        | false => rfl
        | true =>
          have := List.all_eq_true.1 hc _ (getD_mem hxl)
          rw [hb] at this; cases this
      unfold votesE; rw [if_neg (by omega), if_neg (by omega), if_pos this]
    · have h1 := sum_bd (l := w.take x) fun y hy => inB_of (hall y hy)
      have h2 := inB_of hb
      have h3 : (w.take x).length ≤ 8 := by rw [List.length_take]; omega
      refine ⟨inK_i64.2 (by omega), inK_i64.2 (by omega), x + 1, ⟨by omega, by omega, by omega, fun y hy => ?_⟩, by omega, (sum_snoc hxl).symm, by omega⟩
      rw [take_snoc hxl] at hy
      rcases List.mem_append.1 hy with hy | hy
      · exact hall y hy
      · rw [List.mem_singleton.1 hy]; exact hb
  · have htk : w.take x = w := List.take_of_length_le (by omega)
    rw [htk] at hall
    rw [htk]
    have hwall : w.all (fun x => inB x 0 20) = true := List.all_eq_true.2 hall
    have hw : wOk w := ⟨by omega, fun y hy => inB_of (hall y hy)⟩
    have h1 := sum_bd hw.2
    refine ⟨fun hb => bad 1 (by decide) ?_, fun hb => ⟨inK_i64.2 (by have := inB_of hb; omega), fun h2 => bad 6 (by decide) ?_, fun h2 => ?_⟩⟩
    · unfold votesE; rw [if_neg (by omega), if_neg (by omega), if_neg (by rw [hwall]; decide), if_pos hb]
    · unfold votesE; rw [if_neg (by omega), if_neg (by omega), if_neg (by rw [hwall]; decide), if_neg (by rw [hb]; decide), if_pos h2]
    · have he : votesE w need = 0 := by
        unfold votesE; rw [if_neg (by omega), if_neg (by omega), if_neg (by rw [hwall]; decide), if_neg (by rw [hb]; decide), if_neg h2]
      have hpc := powC w.length
      have hpp := Nat.two_pow_pos w.length
      have hpw : 2 ^ w.length ≤ 256 := Nat.pow_le_pow_right (n := 2) (by decide) (show w.length ≤ 8 by omega)
      simp only [he, and_true, Int.one_mul]
      refine ⟨by omega, by omega, rfl, inK_i64.2 (by rw [hpc]; omega), ⟨0, by omega, rfl, rfl⟩, fun x hx => ⟨fun hlt => ?_, fun hge => ?_⟩⟩
      · have hxl : x < 2 ^ w.length := by rw [hpc] at hlt; omega
        refine ⟨⟨w, rfl, hw, by omega, hlt⟩, ⟨w, rfl, hw, by omega, hlt⟩, ⟨[], rfl, by unfold lowL; simp⟩, fun _ _ => trivial, fun z y rest _ hz => ?_, fun z _ hz => ?_⟩
        · have hy : y ∈ bitsOf (x : Int) := by rw [hz]; exact List.mem_append_right _ (.head _)
          obtain ⟨b1, b2, -⟩ := bit_pos (by omega) hlt (by omega) hy
          have hle := two_pow_le (n := y.toNat) (by omega)
          have hlp := two_pow_pos y.toNat
          have hless := lessI_lt (y := y) (by omega) hlt
          unfold lessI at hless
          rw [Int.one_mul, Int.toNat_natCast] at hless
          refine ⟨⟨fun _ => ⟨b1, by omega, rfl, inK_i64.2 (by omega), by omega, by omega, w, rfl, hw, hless.1, hless.2⟩, fun _ => trivial⟩, z ++ [y], rfl, ?_⟩
          rw [lowL_snoc]
          unfold lessI
          rw [Int.one_mul, Int.toNat_natCast]
        · subst hz
          have hlen := votesU_len w need x
          refine ⟨fun hb => ⟨by simp only [List.replicate, List.set, List.length_cons, List.length_nil]; omega, inK_i64.2 (by omega), x + 1, by omega, by omega, by omega, ?_⟩, fun hb => ⟨inK_i64.2 (by omega), x + 1, by omega, by omega, by omega, ?_⟩⟩
          · have e : lowB w need (x : Int) = true := hb
            rw [votesU_succ, if_pos e]; rfl
          · have e : lowB w need (x : Int) = false := hb
            rw [votesU_succ, if_neg (by rw [e]; decide), List.append_nil]
      · have : x = 2 ^ w.length := by rw [hpc] at hge; omega
        subst this
        unfold votesL at hk
        rw [he, if_pos rfl] at hk
        exact hk

theorem okVotes : PlainOk Tryd.prog glT 13 cVotes := by
  refine plain_of (CxOk.mk' Et_ok rfl mixed (gl := glT) (GOk.cons okWithin Tryd.func39 (by kernel_rfl) (by kernel_rfl) (GOk.cons okBits Tryd.func41 (by kernel_rfl) (by kernel_rfl) (GOk.cons okSumW Tryd.func40 (by kernel_rfl) (by kernel_rfl) GOk.nil))) GoOk.nil itB) Tryd.func13 (c := Tryd.f13.body.getD .skip) (rvs := [(.tmp 4, .sl I), (.tmp 5, tErr)]) (by kernel_rfl) (by kernel_rfl) (by kernel_rfl) ?_
  intro ds k ⟨hp, hk⟩ hwf
  obtain ⟨w, need, rfl, -⟩ := dest2 hp
  exact ⟨anVotes w need, votes_vc w need k hk⟩
end Go.Proofs.YtlopkkoenfngiaaDoor

/- Generals: facts about what is computed. -/
namespace Go.Proofs.YtlopkkoenfngiaaDoor
open Go.Vc

theorem getD_set (l : List Int) (i j : Nat) (v : Int) : (l.set i v).getD j 0 = if i = j then (if j < l.length then v else 0) else l.getD j 0 := by
  rw [List.getD_eq_getElem?_getD, List.getElem?_set, List.getD_eq_getElem?_getD]
  by_cases h : i = j
  · subst h
    by_cases hl : i < l.length <;> simp [hl]
  · simp [h]
theorem getD_rep (n j : Nat) : (List.replicate n (0 : Int)).getD j 0 = 0 := by
  rw [List.getD_eq_getElem?_getD, List.getElem?_replicate]; split <;> rfl

theorem key_step {n i y B : Int} (hn : 0 ≤ n ∧ n ≤ 7) (hi : 0 ≤ i ∧ i < B) (hy : 0 ≤ y ∧ y < 7) : 0 ≤ i * n + y ∧ i * n + y < 7 * B := by
  have h1 := Int.mul_le_mul_of_nonneg_left hn.2 hi.1
  have h2 := Int.mul_nonneg hi.1 hn.1
  omega
theorem key_bd {n i : Int} (hn : 0 ≤ n ∧ n ≤ 7) (hi : 0 ≤ i ∧ i < 7) : ∀ p : List Int, p.length ≤ 3 → (∀ y ∈ p, 0 ≤ y ∧ y < 7) → 0 ≤ keyF n p i ∧ keyF n p i < 2401 := by
  intro p hp h
  match p with
  | [] => exact ⟨hi.1, by show i < 2401; omega⟩
  | [a] => have := key_step hn hi (h a (by simp)); exact ⟨this.1, by show i * n + a < 2401; omega⟩
  | [a, b] =>
    have h1 := key_step hn hi (h a (by simp))
    have h2 := key_step hn h1 (h b (by simp))
    exact ⟨h2.1, by show (i * n + a) * n + b < 2401; omega⟩
  | [a, b, c] =>
    have h1 := key_step hn hi (h a (by simp))
    have h2 := key_step hn h1 (h b (by simp))
    have h3 := key_step hn h2 (h c (by simp))
    exact ⟨h3.1, by show ((i * n + a) * n + b) * n + c < 2401; omega⟩
  | _ :: _ :: _ :: _ :: _ => simp at hp
theorem key_succ {n i : Int} {p : List Int} {x : Nat} (h : x < p.length) : keyF n (p.take (x + 1)) i = keyF n (p.take x) i * n + p.getD x 0 := by
  rw [take_snoc h]; unfold keyF; rw [List.foldl_append]; rfl

theorem onN_snoc (p : List Int) (y : Int) : onN (p ++ [y]) = onN p ||| 2 ^ y.toNat := by unfold onN; rw [List.foldl_append]; rfl
theorem onN_bit_aux (j : Nat) : ∀ (p : List Int) (m : Nat), (p.foldl (fun m y => m ||| 2 ^ y.toNat) m).testBit j = true ↔ m.testBit j = true ∨ ∃ y ∈ p, y.toNat = j := by
  intro p
  induction p with
  | nil => intro m; simp
  | cons a r ih =>
    intro m
    rw [List.foldl_cons, ih, bit_or2]
    constructor
    · rintro ((h | h) | ⟨y, hy, h⟩)
      · exact .inl h
      · exact .inr ⟨a, .head _, h.symm⟩
      · exact .inr ⟨y, .tail _ hy, h⟩
    · rintro (h | ⟨y, hy, h⟩)
      · exact .inl (.inl h)
      · rcases List.mem_cons.1 hy with rfl | hy
        · exact .inl (.inr h.symm)
        · exact .inr ⟨y, hy, h⟩
theorem onN_bit (p : List Int) (j : Nat) : (onN p).testBit j = true ↔ ∃ y ∈ p, y.toNat = j := by
  unfold onN; rw [onN_bit_aux]; simp
theorem restN_lt (n : Int) (p : List Int) : restN n p < 2 ^ n.toNat := by
  have h : 2 ^ n.toNat - 1 < 2 ^ n.toNat := by have := Nat.two_pow_pos n.toNat; omega
  exact Nat.xor_lt_two_pow h (Nat.lt_of_le_of_lt Nat.and_le_left h)
theorem restN_bit (n : Int) (p : List Int) (j : Nat) : (restN n p).testBit j = (decide (j < n.toNat) && !(onN p).testBit j) := by
  unfold restN
  rw [Nat.testBit_xor, Nat.testBit_and, Nat.testBit_two_pow_sub_one]
  cases decide (j < n.toNat) <;> cases (onN p).testBit j <;> rfl
theorem rest_lt64 {n : Int} (h : n ≤ 7) (p : List Int) : restN n p < 128 := by
  have := restN_lt n p
  have h2 : 2 ^ n.toNat ≤ 2 ^ 7 := Nat.pow_le_pow_right (by decide) (by omega)
  omega
theorem rest_mem {n : Int} (h0 : 0 ≤ n) (h : n ≤ 7) (p : List Int) {y : Int} (hy : y ∈ bitsOf (restN n p : Int)) : 0 ≤ y ∧ y < n ∧ (onN p).testBit y.toNat = false := by
  have hl := rest_lt64 h p
  obtain ⟨i, rfl, hi⟩ := (bitsOf_mem (by omega) y).1 hy
  rw [restN_bit] at hi
  simp only [Bool.and_eq_true, decide_eq_true_eq, Bool.not_eq_true'] at hi
  exact ⟨by omega, by omega, by simpa using hi.2⟩
theorem wo_mem {r : Nat} (hr : r < 128) {j y : Int} (hy : y ∈ bitsOf (woN r j : Int)) : y ∈ bitsOf (r : Int) ∧ y.toNat ≠ j.toNat := by
  have h2 : woN r j < 128 := Nat.xor_lt_two_pow (n := 7) hr (Nat.lt_of_le_of_lt Nat.and_le_left hr)
  obtain ⟨i, rfl, hi⟩ := (bitsOf_mem (by omega) y).1 hy
  unfold woN at hi
  rw [Nat.testBit_xor, Nat.testBit_and, Nat.testBit_two_pow] at hi
  have h3 : r.testBit i = true ∧ ¬ j.toNat = i := by
    by_cases hj : j.toNat = i
    · cases hb : r.testBit i <;> simp [hj, hb] at hi
    · cases hb : r.testBit i <;> simp [hj, hb] at hi; exact ⟨rfl, hj⟩
  exact ⟨(bitsOf_mem (by omega) _).2 ⟨i, rfl, h3.1⟩, by simpa using fun h => h3.2 h.symm⟩

/-! lengths -/
theorem got_len (a : Ar) (p : List Int) (o : Int) (x : List Int) : (gotL a p o x).length = a.1.toNat := by
  unfold gotL
  have : ∀ (x : List Int) (g : List Int), (x.foldl (fun g i => g.set i.toNat (sendsF a p i o)) g).length = g.length := by
    intro x; induction x with
    | nil => intro g; rfl
    | cons b r ih => intro g; rw [List.foldl_cons, ih, List.length_set]
  rw [this, List.length_replicate]
theorem inc_len (l : List Int) : ∀ (x y : List Int), (incL l y x).length = y.length := by
  intro x; unfold incL; induction x with
  | nil => intro g; rfl
  | cons b r ih => intro g; rw [List.foldl_cons, ih, List.length_set]
theorem out_len (n many : Int) (ye go x : List Int) : (outL n many ye go x).length = n.toNat := by
  unfold outL
  have : ∀ (x : List Int) (g : List Int), (x.foldl (fun u i => if many < 2 * (ye.getD i.toNat 0 + go.getD i.toNat 0) then u.set i.toNat 1 else u) g).length = g.length := by
    intro x; induction x with
    | nil => intro g; rfl
    | cons b r ih => intro g; rw [List.foldl_cons, ih]; split <;> simp
  rw [this, List.length_replicate]
theorem yes_len (n : Int) (r : Nat) (l : Int → List Int) (x : List Int) : (yesL n r l x).length = n.toNat := by
  unfold yesL
  have : ∀ (x : List Int) (g : List Int), (x.foldl (fun y j => incL (l j) y (bitsOf (woN r j : Int))) g).length = g.length := by
    intro x; induction x with
    | nil => intro g; rfl
    | cons b r ih => intro g; rw [List.foldl_cons, ih, inc_len]
  rw [this, List.length_replicate]
theorem ask_len (a : Ar) : ∀ (d : Nat) (p : List Int) (o : Int), (askF a d p o).length = a.1.toNat := by
  intro d p o
  cases d with
  | zero => exact got_len ..
  | succ d => exact out_len ..

/-! bounds -/
theorem sends_bd {a : Ar} (h : ArOk a) {p : List Int} {i o : Int} (ho : 0 ≤ o ∧ o ≤ 1) : 0 ≤ sendsF a p i o ∧ sendsF a p i o ≤ 1 := by
  unfold sendsF
  split
  · generalize ((keyF a.1 p i).tmod (a.2.2.1.length : Int)).toNat = j
    rcases Nat.lt_or_ge j a.2.2.1.length with hj | hj
    · exact h.lie _ (getD_mem hj)
    · rw [List.getD_eq_getElem?_getD, List.getElem?_eq_none hj]; decide
  · exact ho
theorem got_bd {a : Ar} (h : ArOk a) (p : List Int) {o : Int} (ho : 0 ≤ o ∧ o ≤ 1) (x : List Int) (j : Nat) : 0 ≤ (gotL a p o x).getD j 0 ∧ (gotL a p o x).getD j 0 ≤ 1 := by
  unfold gotL
  have : ∀ (x : List Int) (g : List Int), (0 ≤ g.getD j 0 ∧ g.getD j 0 ≤ 1) → 0 ≤ (x.foldl (fun g i => g.set i.toNat (sendsF a p i o)) g).getD j 0 ∧ (x.foldl (fun g i => g.set i.toNat (sendsF a p i o)) g).getD j 0 ≤ 1 := by
    intro x; induction x with
    | nil => intro g h; exact h
    | cons b r ih =>
      intro g hg
      rw [List.foldl_cons]
      refine ih _ ?_
      rw [getD_set]
      have := sends_bd h (p := p) (i := b) ho
      split
      · split <;> omega
      · exact hg
  exact this x _ (by rw [getD_rep]; decide)
theorem inc_bd {l : List Int} (hl : ∀ j, 0 ≤ l.getD j 0 ∧ l.getD j 0 ≤ 1) (j : Nat) : ∀ (x y : List Int) (B : Int), (∀ j, 0 ≤ y.getD j 0 ∧ y.getD j 0 ≤ B) → 0 ≤ B → 0 ≤ (incL l y x).getD j 0 ∧ (incL l y x).getD j 0 ≤ B + x.length := by
  intro x; unfold incL; induction x with
  | nil => intro y B h _; have := h j; simp only [List.foldl_nil, List.length_nil]; omega
  | cons b r ih =>
    intro y B h hB
    rw [List.foldl_cons]
    have := ih (y.set b.toNat (y.getD b.toNat 0 + l.getD b.toNat 0)) (B + 1) (fun j => by
      rw [getD_set]
      have h1 := hl b.toNat
      have h2 := h b.toNat
      have h3 := h j
      split
      · split <;> omega
      · omega) (by omega)
    rw [List.length_cons]
    omega
theorem yes_bd {n : Int} {r : Nat} {l : Int → List Int} (x : List Int) (hl : ∀ i ∈ x, ∀ j, 0 ≤ (l i).getD j 0 ∧ (l i).getD j 0 ≤ 1) (j : Nat) : 0 ≤ (yesL n r l x).getD j 0 ∧ (yesL n r l x).getD j 0 ≤ 64 * x.length := by
  unfold yesL
  have : ∀ (x : List Int) (y : List Int) (B : Int), (∀ i ∈ x, ∀ j, 0 ≤ (l i).getD j 0 ∧ (l i).getD j 0 ≤ 1) → (∀ j, 0 ≤ y.getD j 0 ∧ y.getD j 0 ≤ B) → 0 ≤ B → 0 ≤ (x.foldl (fun y j => incL (l j) y (bitsOf (woN r j : Int))) y).getD j 0 ∧ (x.foldl (fun y j => incL (l j) y (bitsOf (woN r j : Int))) y).getD j 0 ≤ B + 64 * x.length := by
    intro x; induction x with
    | nil => intro y B _ h _; have := h j; simp only [List.foldl_nil, List.length_nil]; omega
    | cons b s ih =>
      intro y B hl h hB
      rw [List.foldl_cons, List.length_cons]
      have := ih (incL (l b) y (bitsOf (woN r b : Int))) (B + 64) (fun i hi => hl i (.tail _ hi)) (fun j => by
        have h1 := inc_bd (hl b (.head _)) j (bitsOf (woN r b : Int)) y B h hB
        have h2 := bitsOf_len (woN r b : Int)
        omega) (by omega)
      omega
  have := this x (List.replicate n.toNat 0) 0 hl (fun j => by rw [getD_rep]; decide) (by decide)
  omega
theorem out_bd (n many : Int) (ye go x : List Int) (j : Nat) : 0 ≤ (outL n many ye go x).getD j 0 ∧ (outL n many ye go x).getD j 0 ≤ 1 := by
  unfold outL
  have : ∀ (x : List Int) (g : List Int), (0 ≤ g.getD j 0 ∧ g.getD j 0 ≤ 1) → 0 ≤ (x.foldl (fun u i => if many < 2 * (ye.getD i.toNat 0 + go.getD i.toNat 0) then u.set i.toNat 1 else u) g).getD j 0 ∧ (x.foldl (fun u i => if many < 2 * (ye.getD i.toNat 0 + go.getD i.toNat 0) then u.set i.toNat 1 else u) g).getD j 0 ≤ 1 := by
    intro x; induction x with
    | nil => intro g h; exact h
    | cons b r ih =>
      intro g hg
      rw [List.foldl_cons]
      refine ih _ ?_
      split
      · rw [getD_set]
        split
        · split <;> omega
        · exact hg
      · exact hg
  exact this x _ (by rw [getD_rep]; decide)
theorem ask_bd {a : Ar} (h : ArOk a) (d : Nat) (p : List Int) {o : Int} (ho : 0 ≤ o ∧ o ≤ 1) (j : Nat) : 0 ≤ (askF a d p o).getD j 0 ∧ (askF a d p o).getD j 0 ≤ 1 := by
  cases d with
  | zero => exact got_bd h p ho ..
  | succ d => exact out_bd ..
end Go.Proofs.YtlopkkoenfngiaaDoor

/- What the functions of this seat have to satisfy, by program: each verification condition in plain words. -/
namespace Go.Proofs.YtlopkkoenfngiaaDoor
open Go.Vc
set_option linter.unusedVariables false
theorem vcHasC (s i : Int) (k : List Dat → Prop) : vcF ⟨En, [], [], [], []⟩ [] (Tryd.f70.body.getD .skip) Tryd.f70.ntmps [(.tmp 4, .bool)] [⟨I, s⟩, ⟨I, i⟩] k = (
  (0 : Int) ≤ i ∧ i < (64 : Int) ∧ IntKind.i64.bits = (64 : Nat) ∧ inK IntKind.i64 (s / (2 : Int) ^ i.toNat) ∧ (0 : Int) ≤ s / (2 : Int) ^ i.toNat ∧ (0 : Int) ≤ (1 : Int) ∧ k [Dat.mk Ty.bool (decide ((↑((s / (2 : Int) ^ i.toNat).toNat &&& Int.toNat (1 : Int)) : Int) = (1 : Int)))]) := by kernel_rfl
theorem vcSends (a : Ar) (p : List Int) (i o : Int) (k : List Dat → Prop) : vcF ⟨En, [(70, cHasC)], [], [], []⟩ (anSends a p i) (Tryd.f61.body.getD .skip) Tryd.f61.ntmps [(.tmp 8, I)] [⟨tAr, a⟩, ⟨.sl I, p⟩, ⟨I, i⟩, ⟨I, o⟩] k = (
  inK IntKind.i64 ((↑p.length : Int) - (1 : Int)) ∧ (0 : Int) ≤ (↑p.length : Int) - (1 : Int) ∧ (↑p.length : Int) - (1 : Int) < (↑p.length : Int) ∧ ((0 : Int) ≤ a.snd.fst ∧ (0 : Int) ≤ p.getD ((↑p.length : Int) - (1 : Int)).toNat (0 : Int) ∧ p.getD ((↑p.length : Int) - (1 : Int)).toNat (0 : Int) < (64 : Int)) ∧ ((!bitB a.snd.fst (p.getD ((↑p.length : Int) - (1 : Int)).toNat (0 : Int))) = true → k [Dat.mk (I) o]) ∧ ((!bitB a.snd.fst (p.getD ((↑p.length : Int) - (1 : Int)).toNat (0 : Int))) = false → (∃ (x : Nat), (x ≤ p.length ∧ True) ∧ (([] : List Nat) = [] ∧ (0 : Int) = (0 : Int) ∧ p.getD ((↑p.length : Int) - (1 : Int)).toNat (0 : Int) = p.getD ((↑p.length : Int) - (1 : Int)).toNat (0 : Int) ∧ i = keyF a.fst (List.take x p) i ∧ p = p ∧ (↑p.length : Int) = (↑p.length : Int) ∧ (0 : Int) = (↑x : Int) ∧ True) ∧ (((68 : Nat) = (68 : Nat) ∧ a = a) ∧ True) ∧ True) ∧ ∀ (x : Nat), x ≤ p.length ∧ True → (decide ((↑x : Int) < (↑p.length : Int)) = true → (0 : Int) ≤ (↑x : Int) ∧ (↑x : Int) < (↑p.length : Int) ∧ inK IntKind.i64 (keyF a.fst (List.take x p) i * a.fst) ∧ inK IntKind.i64 (keyF a.fst (List.take x p) i * a.fst + p.getD (↑x : Int).toNat (0 : Int)) ∧ inK IntKind.i64 ((↑x : Int) + (1 : Int)) ∧ ∃ (x_1 : Nat), (x_1 ≤ p.length ∧ True) ∧ p.length - x_1 < p.length - x ∧ (([] : List Nat) = [] ∧ (0 : Int) = (0 : Int) ∧ p.getD ((↑p.length : Int) - (1 : Int)).toNat (0 : Int) = p.getD ((↑p.length : Int) - (1 : Int)).toNat (0 : Int) ∧ keyF a.fst (List.take x p) i * a.fst + p.getD (↑x : Int).toNat (0 : Int) = keyF a.fst (List.take x_1 p) i ∧ p = p ∧ (↑p.length : Int) = (↑p.length : Int) ∧ (↑x : Int) + (1 : Int) = (↑x_1 : Int) ∧ True) ∧ (((68 : Nat) = (68 : Nat) ∧ a = a) ∧ True) ∧ True) ∧ (decide ((↑x : Int) < (↑p.length : Int)) = false → (↑(List.length a.snd.snd.fst) : Int) ≠ (0 : Int) ∧ inK IntKind.i64 ((keyF a.fst (List.take x p) i).tmod (↑(List.length a.snd.snd.fst) : Int)) ∧ (0 : Int) ≤ (keyF a.fst (List.take x p) i).tmod (↑(List.length a.snd.snd.fst) : Int) ∧ (keyF a.fst (List.take x p) i).tmod (↑(List.length a.snd.snd.fst) : Int) < (↑(List.length a.snd.snd.fst) : Int) ∧ k [Dat.mk (I) (List.getD a.snd.snd.fst ((keyF a.fst (List.take x p) i).tmod (↑(List.length a.snd.snd.fst) : Int)).toNat (0 : Int))]))) := by kernel_rfl
end Go.Proofs.YtlopkkoenfngiaaDoor

/- Generals: the walks. -/
namespace Go.Proofs.YtlopkkoenfngiaaDoor
open Go.Vc
theorem has_eq {s i : Int} (h0 : 0 ≤ s) (hi : 0 ≤ i) : decide ((((s / (2 : Int) ^ i.toNat).toNat &&& Int.toNat (1 : Int) : Nat) : Int) = 1) = bitB s i := by
  obtain ⟨S, rfl⟩ := Int.eq_ofNat_of_zero_le h0
  have e : ((S : Int) / (2 : Int) ^ i.toNat).toNat = S / 2 ^ i.toNat := by rw [powC, ← Int.natCast_ediv, Int.toNat_natCast]
  rw [e]
  unfold bitB
  rw [Int.toNat_natCast, Nat.testBit_eq_decide_div_mod_eq, show Int.toNat 1 = 2 ^ 1 - 1 from rfl, Nat.and_two_pow_sub_one_eq_mod]
  have h : (0 : Int) ≤ (S : Int) := by omega
  simp only [h, decide_true, Bool.true_and]
  congr 1
  apply propext
  omega
theorem has_vc (s i : Int) (k : List Dat → Prop) (h0 : 0 ≤ s) (hs : inK .i64 s) (hi : 0 ≤ i ∧ i < 64) (hk : k [⟨.bool, bitB s i⟩]) :
    vcF ⟨En, [], [], [], []⟩ [] (Tryd.f70.body.getD .skip) Tryd.f70.ntmps [(.tmp 4, .bool)] [⟨I, s⟩, ⟨I, i⟩] k := by
  rw [vcHasC]
  have hs := inK_i64.1 hs
  have hp : (0 : Int) < 2 ^ i.toNat := two_pow_pos _
  have h1 : 0 ≤ s / (2 : Int) ^ i.toNat := Int.ediv_nonneg h0 (by omega)
  have h2 : s / (2 : Int) ^ i.toNat ≤ s := Int.ediv_le_self _ h0
  refine ⟨hi.1, hi.2, rfl, inK_i64.2 (by omega), h1, by decide, ?_⟩
  rw [has_eq h0 hi.1]; exact hk
theorem okHasC : PlainOk Tryd.prog [] 70 cHasC := by
  refine plain_of (CxOk.mk' En_ok rfl mixed (gl := []) GOk.nil GoOk.nil noIt) Tryd.func70 (c := Tryd.f70.body.getD .skip) (rvs := [(.tmp 4, .bool)]) (by kernel_rfl) (by kernel_rfl) (by kernel_rfl) ?_
  intro ds k ⟨hp, hk⟩ hwf
  obtain ⟨s, i, rfl, h0, hi⟩ := dest2 hp
  exact ⟨[], has_vc s i k h0 (hwf _ (.head _)) hi hk⟩
theorem sends_vc (a : Ar) (p : List Int) (i o : Int) (k : List Dat → Prop) (hs : SendOk a p i) (hk : k [⟨I, sendsF a p i o⟩]) :
    vcF ⟨En, [(70, cHasC)], [], [], []⟩ (anSends a p i) (Tryd.f61.body.getD .skip) Tryd.f61.ntmps [(.tmp 8, I)] [⟨tAr, a⟩, ⟨.sl I, p⟩, ⟨I, i⟩, ⟨I, o⟩] k := by
  rw [vcSends]
  have hn := hs.ar.n7
  have hn1 := hs.ar.n1
  have hp3 := hs.pa.le
  have hp0 := hs.pa.ne
  have el : ∀ y ∈ p, 0 ≤ y ∧ y < 7 := fun y hy => by have := hs.pa.el y hy; omega
  have hlast : ((p.length : Int) - 1).toNat = p.length - 1 := by omega
  have hle : 0 ≤ p.getD ((p.length : Int) - 1).toNat 0 ∧ p.getD ((p.length : Int) - 1).toNat 0 < 64 := by rw [hlast]; have := el _ (getD_mem (l := p) (i := p.length - 1) (by omega)); omega
  have hto := hs.to
  simp only [and_true, true_and]
  refine ⟨inK_i64.2 (by omega), by omega, by omega, ⟨hs.ar.l0, hle⟩, fun h => ?_, fun h => ⟨⟨0, by omega, rfl, rfl⟩, fun x hx => ⟨fun h1 => ?_, fun h1 => ?_⟩⟩⟩
  · rw [hlast] at h
    have : sendsF a p i o = o := by
      unfold sendsF lastOf
      rw [if_neg (by simpa using h)]
    rw [this] at hk; exact hk
  · have hxl : x < p.length := by have := of_decide_eq_true h1; omega
    have hb := key_bd (n := a.1) (i := i) (by omega) (by omega) (p.take x) (by rw [List.length_take]; omega) (fun y hy => el y (List.mem_of_mem_take hy))
    have hy := el _ (getD_mem hxl)
    have st := key_step (n := a.1) (by omega) hb hy
    have st0 := key_step (n := a.1) (y := 0) (by omega) hb (by decide)
    refine ⟨by omega, by omega, inK_i64.2 (by omega), inK_i64.2 ?_, inK_i64.2 (by omega), x + 1, by omega, by omega, ?_, by omega⟩
    · rw [Int.toNat_natCast]; omega
    · rw [key_succ hxl, Int.toNat_natCast]
  · have hxl : x = p.length := by have := of_decide_eq_false h1; omega
    subst hxl
    rw [List.take_length]
    have hb := key_bd (n := a.1) (i := i) (by omega) (by omega) p (by omega) el
    have hl := hs.ar.ne
    have hl2 := hs.ar.le
    have m1 := Int.tmod_lt_of_pos (keyF a.1 p i) (show (0 : Int) < (a.2.2.1.length : Int) by omega)
    have m2 := Int.tmod_nonneg (a.2.2.1.length : Int) hb.1
    refine ⟨by omega, inK_i64.2 (by omega), m2, m1, ?_⟩
    rw [hlast] at h
    have : sendsF a p i o = List.getD a.2.2.1 ((keyF a.1 p i).tmod (a.2.2.1.length : Int)).toNat 0 := by
      unfold sendsF lastOf
      rw [if_pos (by simpa using h)]
    rw [this] at hk; exact hk
theorem okSends : PlainOk Tryd.prog [] 61 cSends := by
  refine plain_of (CxOk.mk' En_ok rfl mixed (gl := []) (GOk.cons okHasC Tryd.func70 (by kernel_rfl) (by kernel_rfl) GOk.nil) GoOk.nil noIt) Tryd.func61 (c := Tryd.f61.body.getD .skip) (rvs := [(.tmp 8, I)]) (by kernel_rfl) (by kernel_rfl) (by kernel_rfl) ?_
  intro ds k ⟨hp, hk⟩ hwf
  obtain ⟨a, p, i, o, rfl, hs⟩ := dest4 hp
  exact ⟨anSends a p i, sends_vc a p i o k hs hk⟩
end Go.Proofs.YtlopkkoenfngiaaDoor

/- What the functions of this seat have to satisfy, by program: each verification condition in plain words. -/
namespace Go.Proofs.YtlopkkoenfngiaaDoor
open Go.Vc
set_option linter.unusedVariables false
theorem vcAsk (d : Nat) (a : Ar) (p : List Int) (i o : Int) (k : SV → List Ob → Prop) : vcO ⟨En, [(41, cBitsF), (61, cSends), (47, cMany), (51, cAsk d)], glT, [(54, cBits)], []⟩ (anAsk a p i o) (Tryd.f51.body.getD .skip) Tryd.f51.ntmps [(.tmp 8, .un)] [.d tAr a, .d (.sl I) p, .d I i, .d I o] [] k = (
  (0 : Int) ≤ a.fst ∧ a.fst ≤ a.fst ∧ a.fst ≤ (1000000000 : Int) ∧ (∃ (x : Nat), (x ≤ p.length ∧ True) ∧ (([] : List Nat) = [] ∧ ([] : List Nat) = [] ∧ ([] : List Nat) = [] ∧ ([] : List Nat) = [] ∧ ([] : List Nat) = [] ∧ (0 : Int) = (↑(onN (List.take x p)) : Int) ∧ p = p ∧ (↑p.length : Int) = (↑p.length : Int) ∧ (0 : Int) = (↑x : Int) ∧ True) ∧ (((68 : Nat) = (68 : Nat) ∧ a = a) ∧ ((22 : Nat) = (22 : Nat) ∧ p = p) ∧ ((3 : Nat) = (3 : Nat) ∧ i = i) ∧ ((3 : Nat) = (3 : Nat) ∧ o = o) ∧ ((3 : Nat) = (3 : Nat) ∧ List.replicate (Int.toNat a.fst) (0 : Int) = List.replicate (Int.toNat a.fst) (0 : Int)) ∧ (True ∧ True) ∧ True) ∧ a = a ∧ p = p ∧ i = i ∧ o = o ∧ tabD = tabD ∧ True) ∧ ∀ (x : Nat), x ≤ p.length ∧ True → (decide ((↑x : Int) < (↑p.length : Int)) = true → (0 : Int) ≤ (↑x : Int) ∧ (↑x : Int) < (↑p.length : Int) ∧ (0 : Int) ≤ p.getD (↑x : Int).toNat (0 : Int) ∧ p.getD (↑x : Int).toNat (0 : Int) < (64 : Int) ∧ IntKind.i64.bits = (64 : Nat) ∧ inK IntKind.i64 ((1 : Int) * (2 : Int) ^ (p.getD (↑x : Int).toNat (0 : Int)).toNat) ∧ (0 : Int) ≤ (↑(onN (List.take x p)) : Int) ∧ (0 : Int) ≤ (1 : Int) * (2 : Int) ^ (p.getD (↑x : Int).toNat (0 : Int)).toNat ∧ inK IntKind.i64 ((↑x : Int) + (1 : Int)) ∧ ∃ (x_1 : Nat), (x_1 ≤ p.length ∧ True) ∧ p.length - x_1 < p.length - x ∧ (([] : List Nat) = [] ∧ ([] : List Nat) = [] ∧ ([] : List Nat) = [] ∧ ([] : List Nat) = [] ∧ ([] : List Nat) = [] ∧ (↑((↑(onN (List.take x p)) : Int).toNat ||| ((1 : Int) * (2 : Int) ^ (p.getD (↑x : Int).toNat (0 : Int)).toNat).toNat) : Int) = (↑(onN (List.take x_1 p)) : Int) ∧ p = p ∧ (↑p.length : Int) = (↑p.length : Int) ∧ (↑x : Int) + (1 : Int) = (↑x_1 : Int) ∧ True) ∧ (((68 : Nat) = (68 : Nat) ∧ a = a) ∧ ((22 : Nat) = (22 : Nat) ∧ p = p) ∧ ((3 : Nat) = (3 : Nat) ∧ i = i) ∧ ((3 : Nat) = (3 : Nat) ∧ o = o) ∧ ((3 : Nat) = (3 : Nat) ∧ List.replicate (Int.toNat a.fst) (0 : Int) = List.replicate (Int.toNat a.fst) (0 : Int)) ∧ (True ∧ True) ∧ True) ∧ a = a ∧ p = p ∧ i = i ∧ o = o ∧ tabD = tabD ∧ True) ∧ (decide ((↑x : Int) < (↑p.length : Int)) = false → ((0 : Int) ≤ a.fst ∧ a.fst < (64 : Int) ∧ IntKind.i64.bits = (64 : Nat) ∧ inK IntKind.i64 ((1 : Int) * (2 : Int) ^ Int.toNat a.fst) ∧ inK IntKind.i64 ((1 : Int) * (2 : Int) ^ Int.toNat a.fst - (1 : Int)) ∧ (0 : Int) ≤ (1 : Int) * (2 : Int) ^ Int.toNat a.fst - (1 : Int) ∧ (0 : Int) ≤ (↑(onN (List.take x p)) : Int) ∧ ∃ (x_1 : Nat), True ∧ (([] : List Nat) = [] ∧ ([] : List Nat) = [] ∧ ([] : List Nat) = [] ∧ ([] : List Nat) = [] ∧ ([] : List Nat) = [] ∧ ([] : List Nat) = [] ∧ True) ∧ (((68 : Nat) = (68 : Nat) ∧ a = a) ∧ ((22 : Nat) = (22 : Nat) ∧ p = p) ∧ ((3 : Nat) = (3 : Nat) ∧ i = i) ∧ ((3 : Nat) = (3 : Nat) ∧ o = o) ∧ ((3 : Nat) = (3 : Nat) ∧ List.replicate (Int.toNat a.fst) (0 : Int) = List.replicate (Int.toNat a.fst) (0 : Int)) ∧ (True ∧ True) ∧ ((3 : Nat) = (3 : Nat) ∧ (↑(((1 : Int) * (2 : Int) ^ Int.toNat a.fst - (1 : Int)).toNat ^^^ ((1 : Int) * (2 : Int) ^ Int.toNat a.fst - (1 : Int)).toNat &&& (↑(onN (List.take x p)) : Int).toNat) : Int) = (↑(restN a.fst p) : Int)) ∧ True) ∧ a = a ∧ p = p ∧ i = i ∧ o = o ∧ tabD = tabD ∧ True) ∧ ∀ (x : Nat), True → (True ∧ (∃ (x : List Int), True ∧ x = [] ∧ (([] : List Nat) = [] ∧ ([] : List Nat) = [] ∧ ([] : List Nat) = [] ∧ ([] : List Nat) = [] ∧ ([] : List Nat) = [] ∧ ([] : List Nat) = [] ∧ some (some (↑(restN a.fst p) : Int), ()) = some (some (↑(restN a.fst p) : Int), ()) ∧ True) ∧ (((68 : Nat) = (68 : Nat) ∧ a = a) ∧ ((22 : Nat) = (22 : Nat) ∧ p = p) ∧ ((3 : Nat) = (3 : Nat) ∧ i = i) ∧ ((3 : Nat) = (3 : Nat) ∧ o = o) ∧ ((3 : Nat) = (3 : Nat) ∧ List.replicate (Int.toNat a.fst) (0 : Int) = gotL a p o x) ∧ (True ∧ True) ∧ ((3 : Nat) = (3 : Nat) ∧ (↑(restN a.fst p) : Int) = (↑(restN a.fst p) : Int)) ∧ True) ∧ a = a ∧ p = p ∧ i = i ∧ o = o ∧ tabD = tabD ∧ True) ∧ (∀ (x : List Int), True → some (some (↑(restN a.fst p) : Int), ()) = some (some (↑(restN a.fst p) : Int), ())) ∧ (∀ (x : List Int) (y : Int) (rest : List Int), True → bitsOf (↑(restN a.fst p) : Int) = x ++ y :: rest → SendOk a p y ∧ (0 : Int) ≤ y ∧ y < (↑(gotL a p o x).length : Int) ∧ ∃ (x_1 : List Int), True ∧ x_1 = x ++ [y] ∧ (([] : List Nat) = [] ∧ ([] : List Nat) = [] ∧ ([] : List Nat) = [] ∧ ([] : List Nat) = [] ∧ ([] : List Nat) = [] ∧ ([] : List Nat) = [] ∧ some (some (↑(restN a.fst p) : Int), ()) = some (some (↑(restN a.fst p) : Int), ()) ∧ True) ∧ (((68 : Nat) = (68 : Nat) ∧ a = a) ∧ ((22 : Nat) = (22 : Nat) ∧ p = p) ∧ ((3 : Nat) = (3 : Nat) ∧ i = i) ∧ ((3 : Nat) = (3 : Nat) ∧ o = o) ∧ ((3 : Nat) = (3 : Nat) ∧ (gotL a p o x).set y.toNat (sendsF a p y o) = gotL a p o x_1) ∧ (True ∧ True) ∧ ((3 : Nat) = (3 : Nat) ∧ (↑(restN a.fst p) : Int) = (↑(restN a.fst p) : Int)) ∧ True) ∧ a = a ∧ p = p ∧ i = i ∧ o = o ∧ tabD = tabD ∧ True) ∧ ∀ (x : List Int), True → x = bitsOf (↑(restN a.fst p) : Int) → ∃ (x_1 : Nat), True ∧ (([] : List Nat) = [] ∧ ([] : List Nat) = [] ∧ ([] : List Nat) = [] ∧ ([] : List Nat) = [] ∧ ([] : List Nat) = [] ∧ ([] : List Nat) = [] ∧ True) ∧ (((68 : Nat) = (68 : Nat) ∧ a = a) ∧ ((22 : Nat) = (22 : Nat) ∧ p = p) ∧ ((3 : Nat) = (3 : Nat) ∧ i = i) ∧ ((3 : Nat) = (3 : Nat) ∧ o = o) ∧ ((3 : Nat) = (3 : Nat) ∧ gotL a p o x = gotR a p o) ∧ (True ∧ True) ∧ ((3 : Nat) = (3 : Nat) ∧ (↑(restN a.fst p) : Int) = (↑(restN a.fst p) : Int)) ∧ True) ∧ a = a ∧ p = p ∧ i = i ∧ o = o ∧ tabD = tabD ∧ True) ∧ ∀ (x : Nat), True → (decide (i = (0 : Int)) = true → k (SV.os (0 : Nat)) [Ob.row (3 : Nat) (I) (gotR a p o)]) ∧ (decide (i = (0 : Int)) = false → (0 : Int) ≤ a.fst ∧ a.fst ≤ a.fst ∧ a.fst ≤ (1000000000 : Int) ∧ (0 : Int) ≤ a.fst ∧ a.fst ≤ a.fst ∧ a.fst ≤ (1000000000 : Int) ∧ (True ∧ (∃ (x : List Int), True ∧ x = [] ∧ (([] : List Nat) = [] ∧ ([] : List Nat) = [] ∧ ([] : List Nat) = [] ∧ ([] : List Nat) = [] ∧ ([] : List Nat) = [] ∧ ([] : List Nat) = [] ∧ ([] : List Nat) = [] ∧ ([] : List Nat) = [] ∧ some (some (↑(restN a.fst p) : Int), ()) = some (some (↑(restN a.fst p) : Int), ()) ∧ True) ∧ (((68 : Nat) = (68 : Nat) ∧ a = a) ∧ ((22 : Nat) = (22 : Nat) ∧ p = p) ∧ ((3 : Nat) = (3 : Nat) ∧ i = i) ∧ ((3 : Nat) = (3 : Nat) ∧ o = o) ∧ ((3 : Nat) = (3 : Nat) ∧ gotR a p o = gotR a p o) ∧ (True ∧ True) ∧ ((3 : Nat) = (3 : Nat) ∧ (↑(restN a.fst p) : Int) = (↑(restN a.fst p) : Int)) ∧ ((3 : Nat) = (3 : Nat) ∧ List.replicate (Int.toNat a.fst) (0 : Int) = List.replicate (Int.toNat a.fst) (0 : Int)) ∧ (True ∧ True) ∧ ((3 : Nat) = (3 : Nat) ∧ List.replicate (Int.toNat a.fst) (0 : Int) = yesR a p i o x) ∧ (True ∧ True) ∧ True) ∧ a = a ∧ p = p ∧ i = i ∧ o = o ∧ tabD = tabD ∧ True) ∧ (∀ (x : List Int), True → some (some (↑(restN a.fst p) : Int), ()) = some (some (↑(restN a.fst p) : Int), ())) ∧ (∀ (x : List Int) (y : Int) (rest : List Int), True → bitsOf (↑(restN a.fst p) : Int) = x ++ y :: rest → (↑p.length : Int) = (↑p.length : Int) ∧ (0 : Int) ≤ (0 : Int) ∧ (0 : Int) ≤ (↑p.length : Int) ∧ (↑p.length : Int) ≤ (↑p.length : Int) ∧ ((0 : Nat) < (List.drop (Int.toNat (0 : Int)) (List.take (↑p.length : Int).toNat p)).length ∧ (0 : Nat) < ((List.replicate (1 : Nat) (0 : Int)).set (0 : Nat) y).length ∧ (List.drop (Int.toNat (0 : Int)) (List.take (↑p.length : Int).toNat p)).length + ((List.replicate (1 : Nat) (0 : Int)).set (0 : Nat) y).length ≤ (1000000000 : Nat)) ∧ inK IntKind.i64 (i - (1 : Int)) ∧ (0 : Int) ≤ y ∧ y < (↑(gotR a p o).length : Int) ∧ AskOk d a ((List.drop (Int.toNat (0 : Int)) (List.take (↑p.length : Int).toNat p)).append ((List.replicate (1 : Nat) (0 : Int)).set (0 : Nat) y)) (i - (1 : Int)) ((gotR a p o).getD y.toNat (0 : Int)) ∧ (↑p.length : Int) = (↑p.length : Int) ∧ (0 : Int) ≤ (0 : Int) ∧ (0 : Int) ≤ (↑p.length : Int) ∧ (↑p.length : Int) ≤ (↑p.length : Int) ∧ ((0 : Nat) < (List.drop (Int.toNat (0 : Int)) (List.take (↑p.length : Int).toNat p)).length ∧ (0 : Nat) < ((List.replicate (1 : Nat) (0 : Int)).set (0 : Nat) y).length ∧ (List.drop (Int.toNat (0 : Int)) (List.take (↑p.length : Int).toNat p)).length + ((List.replicate (1 : Nat) (0 : Int)).set (0 : Nat) y).length ≤ (1000000000 : Nat)) ∧ inK IntKind.i64 (i - (1 : Int)) ∧ (0 : Int) ≤ y ∧ y < (↑(gotR a p o).length : Int) ∧ AskOk d a ((List.drop (Int.toNat (0 : Int)) (List.take (↑p.length : Int).toNat p)).append ((List.replicate (1 : Nat) (0 : Int)).set (0 : Nat) y)) (i - (1 : Int)) ((gotR a p o).getD y.toNat (0 : Int)) ∧ (SV.pv ((I).pr ((I).pr ((I).sl.pr Ty.un))) (0 : Nat) [] = SV.pv ((I).pr ((I).pr ((I).sl.pr Ty.un))) (0 : Nat) [] ∧ SV.pv (I).sl (1 : Nat) [] = SV.pv (I).sl (1 : Nat) [] ∧ SV.pv (I) (2 : Nat) [] = SV.pv (I) (2 : Nat) [] ∧ SV.pv (I) (3 : Nat) [] = SV.pv (I) (3 : Nat) [] ∧ SV.pv (I).sl (5 : Nat) [] = SV.pv (I).sl (5 : Nat) [] ∧ SV.pv (I) (6 : Nat) [] = SV.pv (I) (6 : Nat) [] ∧ SV.pv (I).sl (8 : Nat) [] = SV.pv (I).sl (8 : Nat) [] ∧ SV.pv (I).sl (10 : Nat) [] = SV.pv (I).sl (10 : Nat) [] ∧ y = y ∧ some (some (↑(restN a.fst p) : Int), ()) = some (some (↑(restN a.fst p) : Int), ()) ∧ y = y ∧ a = a ∧ p = p ∧ p = p ∧ (↑p.length : Int) = (↑p.length : Int) ∧ p = p ∧ (↑p.length : Int) = (↑p.length : Int) ∧ SV.fs (I) (List.drop (Int.toNat (0 : Int)) (List.take (↑p.length : Int).toNat p)) = SV.fs (I) (List.drop (Int.toNat (0 : Int)) (List.take (↑p.length : Int).toNat p)) ∧ y = y ∧ (List.replicate (1 : Nat) (0 : Int)).set (0 : Nat) y = (List.replicate (1 : Nat) (0 : Int)).set (0 : Nat) y ∧ (List.drop (Int.toNat (0 : Int)) (List.take (↑p.length : Int).toNat p)).append ((List.replicate (1 : Nat) (0 : Int)).set (0 : Nat) y) = (List.drop (Int.toNat (0 : Int)) (List.take (↑p.length : Int).toNat p)).append ((List.replicate (1 : Nat) (0 : Int)).set (0 : Nat) y) ∧ i = i ∧ i - (1 : Int) = i - (1 : Int) ∧ SV.os (4 : Nat) = SV.os (4 : Nat) ∧ y = y ∧ SV.ea (I) (4 : Nat) y.toNat [] = SV.ea (I) (4 : Nat) y.toNat [] ∧ (gotR a p o).getD y.toNat (0 : Int) = (gotR a p o).getD y.toNat (0 : Int) ∧ askF a (i - (1 : Int)).toNat ((List.drop (Int.toNat (0 : Int)) (List.take (↑p.length : Int).toNat p)).append ((List.replicate (1 : Nat) (0 : Int)).set (0 : Nat) y)) ((gotR a p o).getD y.toNat (0 : Int)) = askF a (i - (1 : Int)).toNat ((List.drop (Int.toNat (0 : Int)) (List.take (↑p.length : Int).toNat p)).append ((List.replicate (1 : Nat) (0 : Int)).set (0 : Nat) y)) ((gotR a p o).getD y.toNat (0 : Int)) ∧ True) ∧ (0 : Int) ≤ y ∧ y < (64 : Int) ∧ IntKind.i64.bits = (64 : Nat) ∧ inK IntKind.i64 ((1 : Int) * (2 : Int) ^ y.toNat) ∧ (0 : Int) ≤ (↑(restN a.fst p) : Int) ∧ (0 : Int) ≤ (1 : Int) * (2 : Int) ^ y.toNat ∧ True ∧ (∃ (x_1 : List Int), True ∧ x_1 = [] ∧ (([] : List Nat) = [] ∧ ([] : List Nat) = [] ∧ ([] : List Nat) = [] ∧ ([] : List Nat) = [] ∧ ([] : List Nat) = [] ∧ ([] : List Nat) = [] ∧ ([] : List Nat) = [] ∧ ([] : List Nat) = [] ∧ y = y ∧ ([] : List Nat) = [] ∧ some (some (↑(restN a.fst p) : Int), ()) = some (some (↑(restN a.fst p) : Int), ()) ∧ some (some (↑((↑(restN a.fst p) : Int).toNat ^^^ (↑(restN a.fst p) : Int).toNat &&& ((1 : Int) * (2 : Int) ^ y.toNat).toNat) : Int), ()) = some (some (↑((↑(restN a.fst p) : Int).toNat ^^^ (↑(restN a.fst p) : Int).toNat &&& ((1 : Int) * (2 : Int) ^ y.toNat).toNat) : Int), ()) ∧ True) ∧ (((68 : Nat) = (68 : Nat) ∧ a = a) ∧ ((22 : Nat) = (22 : Nat) ∧ p = p) ∧ ((3 : Nat) = (3 : Nat) ∧ i = i) ∧ ((3 : Nat) = (3 : Nat) ∧ o = o) ∧ ((3 : Nat) = (3 : Nat) ∧ gotR a p o = gotR a p o) ∧ (True ∧ True) ∧ ((3 : Nat) = (3 : Nat) ∧ (↑(restN a.fst p) : Int) = (↑(restN a.fst p) : Int)) ∧ ((3 : Nat) = (3 : Nat) ∧ List.replicate (Int.toNat a.fst) (0 : Int) = List.replicate (Int.toNat a.fst) (0 : Int)) ∧ (True ∧ True) ∧ ((3 : Nat) = (3 : Nat) ∧ yesR a p i o x = incL (lR a p i o y) (yesR a p i o x) x_1) ∧ (True ∧ True) ∧ ((22 : Nat) = (22 : Nat) ∧ askF a (i - (1 : Int)).toNat ((List.drop (Int.toNat (0 : Int)) (List.take (↑p.length : Int).toNat p)).append ((List.replicate (1 : Nat) (0 : Int)).set (0 : Nat) y)) ((gotR a p o).getD y.toNat (0 : Int)) = askF a (i - (1 : Int)).toNat ((List.drop (Int.toNat (0 : Int)) (List.take (↑p.length : Int).toNat p)).append ((List.replicate (1 : Nat) (0 : Int)).set (0 : Nat) y)) ((gotR a p o).getD y.toNat (0 : Int))) ∧ True) ∧ ([] : List Nat) = [] ∧ ([] : List Nat) = [] ∧ ([] : List Nat) = [] ∧ ([] : List Nat) = [] ∧ ([] : List Nat) = [] ∧ ([] : List Nat) = [] ∧ ([] : List Nat) = [] ∧ ([] : List Nat) = [] ∧ some (some (↑(restN a.fst p) : Int), ()) = some (some (↑(restN a.fst p) : Int), ()) ∧ a = a ∧ p = p ∧ i = i ∧ o = o ∧ tabD = tabD ∧ True) ∧ (∀ (x : List Int), True → some (some (↑((↑(restN a.fst p) : Int).toNat ^^^ (↑(restN a.fst p) : Int).toNat &&& ((1 : Int) * (2 : Int) ^ y.toNat).toNat) : Int), ()) = some (some (↑((↑(restN a.fst p) : Int).toNat ^^^ (↑(restN a.fst p) : Int).toNat &&& ((1 : Int) * (2 : Int) ^ y.toNat).toNat) : Int), ())) ∧ (∀ (x_1 : List Int) (y_1 : Int) (rest : List Int), True → bitsOf (↑((↑(restN a.fst p) : Int).toNat ^^^ (↑(restN a.fst p) : Int).toNat &&& ((1 : Int) * (2 : Int) ^ y.toNat).toNat) : Int) = x_1 ++ y_1 :: rest → (0 : Int) ≤ y_1 ∧ y_1 < (↑(incL (lR a p i o y) (yesR a p i o x) x_1).length : Int) ∧ (0 : Int) ≤ y_1 ∧ y_1 < (↑(askF a (i - (1 : Int)).toNat ((List.drop (Int.toNat (0 : Int)) (List.take (↑p.length : Int).toNat p)).append ((List.replicate (1 : Nat) (0 : Int)).set (0 : Nat) y)) ((gotR a p o).getD y.toNat (0 : Int))).length : Int) ∧ inK IntKind.i64 ((incL (lR a p i o y) (yesR a p i o x) x_1).getD y_1.toNat (0 : Int) + (askF a (i - (1 : Int)).toNat ((List.drop (Int.toNat (0 : Int)) (List.take (↑p.length : Int).toNat p)).append ((List.replicate (1 : Nat) (0 : Int)).set (0 : Nat) y)) ((gotR a p o).getD y.toNat (0 : Int))).getD y_1.toNat (0 : Int)) ∧ (0 : Int) ≤ y_1 ∧ y_1 < (↑(incL (lR a p i o y) (yesR a p i o x) x_1).length : Int) ∧ ∃ (x_2 : List Int), True ∧ x_2 = x_1 ++ [y_1] ∧ (([] : List Nat) = [] ∧ ([] : List Nat) = [] ∧ ([] : List Nat) = [] ∧ ([] : List Nat) = [] ∧ ([] : List Nat) = [] ∧ ([] : List Nat) = [] ∧ ([] : List Nat) = [] ∧ ([] : List Nat) = [] ∧ y = y ∧ ([] : List Nat) = [] ∧ some (some (↑(restN a.fst p) : Int), ()) = some (some (↑(restN a.fst p) : Int), ()) ∧ some (some (↑((↑(restN a.fst p) : Int).toNat ^^^ (↑(restN a.fst p) : Int).toNat &&& ((1 : Int) * (2 : Int) ^ y.toNat).toNat) : Int), ()) = some (some (↑((↑(restN a.fst p) : Int).toNat ^^^ (↑(restN a.fst p) : Int).toNat &&& ((1 : Int) * (2 : Int) ^ y.toNat).toNat) : Int), ()) ∧ True) ∧ (((68 : Nat) = (68 : Nat) ∧ a = a) ∧ ((22 : Nat) = (22 : Nat) ∧ p = p) ∧ ((3 : Nat) = (3 : Nat) ∧ i = i) ∧ ((3 : Nat) = (3 : Nat) ∧ o = o) ∧ ((3 : Nat) = (3 : Nat) ∧ gotR a p o = gotR a p o) ∧ (True ∧ True) ∧ ((3 : Nat) = (3 : Nat) ∧ (↑(restN a.fst p) : Int) = (↑(restN a.fst p) : Int)) ∧ ((3 : Nat) = (3 : Nat) ∧ List.replicate (Int.toNat a.fst) (0 : Int) = List.replicate (Int.toNat a.fst) (0 : Int)) ∧ (True ∧ True) ∧ ((3 : Nat) = (3 : Nat) ∧ (incL (lR a p i o y) (yesR a p i o x) x_1).set y_1.toNat ((incL (lR a p i o y) (yesR a p i o x) x_1).getD y_1.toNat (0 : Int) + (askF a (i - (1 : Int)).toNat ((List.drop (Int.toNat (0 : Int)) (List.take (↑p.length : Int).toNat p)).append ((List.replicate (1 : Nat) (0 : Int)).set (0 : Nat) y)) ((gotR a p o).getD y.toNat (0 : Int))).getD y_1.toNat (0 : Int)) = incL (lR a p i o y) (yesR a p i o x) x_2) ∧ (True ∧ True) ∧ ((22 : Nat) = (22 : Nat) ∧ askF a (i - (1 : Int)).toNat ((List.drop (Int.toNat (0 : Int)) (List.take (↑p.length : Int).toNat p)).append ((List.replicate (1 : Nat) (0 : Int)).set (0 : Nat) y)) ((gotR a p o).getD y.toNat (0 : Int)) = askF a (i - (1 : Int)).toNat ((List.drop (Int.toNat (0 : Int)) (List.take (↑p.length : Int).toNat p)).append ((List.replicate (1 : Nat) (0 : Int)).set (0 : Nat) y)) ((gotR a p o).getD y.toNat (0 : Int))) ∧ True) ∧ ([] : List Nat) = [] ∧ ([] : List Nat) = [] ∧ ([] : List Nat) = [] ∧ ([] : List Nat) = [] ∧ ([] : List Nat) = [] ∧ ([] : List Nat) = [] ∧ ([] : List Nat) = [] ∧ ([] : List Nat) = [] ∧ some (some (↑(restN a.fst p) : Int), ()) = some (some (↑(restN a.fst p) : Int), ()) ∧ a = a ∧ p = p ∧ i = i ∧ o = o ∧ tabD = tabD ∧ True) ∧ ∀ (x_1 : List Int), True → x_1 = bitsOf (↑((↑(restN a.fst p) : Int).toNat ^^^ (↑(restN a.fst p) : Int).toNat &&& ((1 : Int) * (2 : Int) ^ y.toNat).toNat) : Int) → ∃ (x_2 : List Int), True ∧ x_2 = x ++ [y] ∧ (([] : List Nat) = [] ∧ ([] : List Nat) = [] ∧ ([] : List Nat) = [] ∧ ([] : List Nat) = [] ∧ ([] : List Nat) = [] ∧ ([] : List Nat) = [] ∧ ([] : List Nat) = [] ∧ ([] : List Nat) = [] ∧ some (some (↑(restN a.fst p) : Int), ()) = some (some (↑(restN a.fst p) : Int), ()) ∧ True) ∧ (((68 : Nat) = (68 : Nat) ∧ a = a) ∧ ((22 : Nat) = (22 : Nat) ∧ p = p) ∧ ((3 : Nat) = (3 : Nat) ∧ i = i) ∧ ((3 : Nat) = (3 : Nat) ∧ o = o) ∧ ((3 : Nat) = (3 : Nat) ∧ gotR a p o = gotR a p o) ∧ (True ∧ True) ∧ ((3 : Nat) = (3 : Nat) ∧ (↑(restN a.fst p) : Int) = (↑(restN a.fst p) : Int)) ∧ ((3 : Nat) = (3 : Nat) ∧ List.replicate (Int.toNat a.fst) (0 : Int) = List.replicate (Int.toNat a.fst) (0 : Int)) ∧ (True ∧ True) ∧ ((3 : Nat) = (3 : Nat) ∧ incL (lR a p i o y) (yesR a p i o x) x_1 = yesR a p i o x_2) ∧ (True ∧ True) ∧ True) ∧ a = a ∧ p = p ∧ i = i ∧ o = o ∧ tabD = tabD ∧ True) ∧ ∀ (x : List Int), True → x = bitsOf (↑(restN a.fst p) : Int) → ∃ (x_1 : Nat), True ∧ (([] : List Nat) = [] ∧ ([] : List Nat) = [] ∧ ([] : List Nat) = [] ∧ ([] : List Nat) = [] ∧ ([] : List Nat) = [] ∧ ([] : List Nat) = [] ∧ ([] : List Nat) = [] ∧ ([] : List Nat) = [] ∧ True) ∧ (((68 : Nat) = (68 : Nat) ∧ a = a) ∧ ((22 : Nat) = (22 : Nat) ∧ p = p) ∧ ((3 : Nat) = (3 : Nat) ∧ i = i) ∧ ((3 : Nat) = (3 : Nat) ∧ o = o) ∧ ((3 : Nat) = (3 : Nat) ∧ gotR a p o = gotR a p o) ∧ (True ∧ True) ∧ ((3 : Nat) = (3 : Nat) ∧ (↑(restN a.fst p) : Int) = (↑(restN a.fst p) : Int)) ∧ ((3 : Nat) = (3 : Nat) ∧ List.replicate (Int.toNat a.fst) (0 : Int) = List.replicate (Int.toNat a.fst) (0 : Int)) ∧ (True ∧ True) ∧ ((3 : Nat) = (3 : Nat) ∧ yesR a p i o x = yesR a p i o (bitsOf (↑(restN a.fst p) : Int))) ∧ (True ∧ True) ∧ True) ∧ a = a ∧ p = p ∧ i = i ∧ o = o ∧ tabD = tabD ∧ True) ∧ ∀ (x : Nat), True → ((0 : Int) ≤ (↑(restN a.fst p) : Int) ∧ (↑(restN a.fst p) : Int) < (256 : Int)) ∧ True ∧ (∃ (x : List Int), True ∧ x = [] ∧ (([] : List Nat) = [] ∧ ([] : List Nat) = [] ∧ ([] : List Nat) = [] ∧ ([] : List Nat) = [] ∧ ([] : List Nat) = [] ∧ ([] : List Nat) = [] ∧ ([] : List Nat) = [] ∧ ([] : List Nat) = [] ∧ ([] : List Nat) = [] ∧ some (some (↑(restN a.fst p) : Int), ()) = some (some (↑(restN a.fst p) : Int), ()) ∧ True) ∧ (((68 : Nat) = (68 : Nat) ∧ a = a) ∧ ((22 : Nat) = (22 : Nat) ∧ p = p) ∧ ((3 : Nat) = (3 : Nat) ∧ i = i) ∧ ((3 : Nat) = (3 : Nat) ∧ o = o) ∧ ((3 : Nat) = (3 : Nat) ∧ gotR a p o = gotR a p o) ∧ (True ∧ True) ∧ ((3 : Nat) = (3 : Nat) ∧ (↑(restN a.fst p) : Int) = (↑(restN a.fst p) : Int)) ∧ ((3 : Nat) = (3 : Nat) ∧ List.replicate (Int.toNat a.fst) (0 : Int) = outR a p i o x) ∧ (True ∧ True) ∧ ((3 : Nat) = (3 : Nat) ∧ yesR a p i o (bitsOf (↑(restN a.fst p) : Int)) = yesR a p i o (bitsOf (↑(restN a.fst p) : Int))) ∧ (True ∧ True) ∧ ((3 : Nat) = (3 : Nat) ∧ (↑(popN (↑(restN a.fst p) : Int).toNat) : Int) = (↑(popN (↑(restN a.fst p) : Int).toNat) : Int)) ∧ True) ∧ a = a ∧ p = p ∧ i = i ∧ o = o ∧ tabD = tabD ∧ True) ∧ (∀ (x : List Int), True → some (some (↑(restN a.fst p) : Int), ()) = some (some (↑(restN a.fst p) : Int), ())) ∧ (∀ (x : List Int) (y : Int) (rest : List Int), True → bitsOf (↑(restN a.fst p) : Int) = x ++ y :: rest → (0 : Int) ≤ y ∧ y < (↑(yesR a p i o (bitsOf (↑(restN a.fst p) : Int))).length : Int) ∧ (0 : Int) ≤ y ∧ y < (↑(gotR a p o).length : Int) ∧ inK IntKind.i64 ((yesR a p i o (bitsOf (↑(restN a.fst p) : Int))).getD y.toNat (0 : Int) + (gotR a p o).getD y.toNat (0 : Int)) ∧ inK IntKind.i64 ((2 : Int) * ((yesR a p i o (bitsOf (↑(restN a.fst p) : Int))).getD y.toNat (0 : Int) + (gotR a p o).getD y.toNat (0 : Int))) ∧ (decide ((↑(popN (↑(restN a.fst p) : Int).toNat) : Int) < (2 : Int) * ((yesR a p i o (bitsOf (↑(restN a.fst p) : Int))).getD y.toNat (0 : Int) + (gotR a p o).getD y.toNat (0 : Int))) = true → (0 : Int) ≤ y ∧ y < (↑(outR a p i o x).length : Int) ∧ ∃ (x_1 : List Int), True ∧ x_1 = x ++ [y] ∧ (([] : List Nat) = [] ∧ ([] : List Nat) = [] ∧ ([] : List Nat) = [] ∧ ([] : List Nat) = [] ∧ ([] : List Nat) = [] ∧ ([] : List Nat) = [] ∧ ([] : List Nat) = [] ∧ ([] : List Nat) = [] ∧ ([] : List Nat) = [] ∧ some (some (↑(restN a.fst p) : Int), ()) = some (some (↑(restN a.fst p) : Int), ()) ∧ True) ∧ (((68 : Nat) = (68 : Nat) ∧ a = a) ∧ ((22 : Nat) = (22 : Nat) ∧ p = p) ∧ ((3 : Nat) = (3 : Nat) ∧ i = i) ∧ ((3 : Nat) = (3 : Nat) ∧ o = o) ∧ ((3 : Nat) = (3 : Nat) ∧ gotR a p o = gotR a p o) ∧ (True ∧ True) ∧ ((3 : Nat) = (3 : Nat) ∧ (↑(restN a.fst p) : Int) = (↑(restN a.fst p) : Int)) ∧ ((3 : Nat) = (3 : Nat) ∧ (outR a p i o x).set y.toNat (1 : Int) = outR a p i o x_1) ∧ (True ∧ True) ∧ ((3 : Nat) = (3 : Nat) ∧ yesR a p i o (bitsOf (↑(restN a.fst p) : Int)) = yesR a p i o (bitsOf (↑(restN a.fst p) : Int))) ∧ (True ∧ True) ∧ ((3 : Nat) = (3 : Nat) ∧ (↑(popN (↑(restN a.fst p) : Int).toNat) : Int) = (↑(popN (↑(restN a.fst p) : Int).toNat) : Int)) ∧ True) ∧ a = a ∧ p = p ∧ i = i ∧ o = o ∧ tabD = tabD ∧ True) ∧ (decide ((↑(popN (↑(restN a.fst p) : Int).toNat) : Int) < (2 : Int) * ((yesR a p i o (bitsOf (↑(restN a.fst p) : Int))).getD y.toNat (0 : Int) + (gotR a p o).getD y.toNat (0 : Int))) = false → ∃ (x_1 : List Int), True ∧ x_1 = x ++ [y] ∧ (([] : List Nat) = [] ∧ ([] : List Nat) = [] ∧ ([] : List Nat) = [] ∧ ([] : List Nat) = [] ∧ ([] : List Nat) = [] ∧ ([] : List Nat) = [] ∧ ([] : List Nat) = [] ∧ ([] : List Nat) = [] ∧ ([] : List Nat) = [] ∧ some (some (↑(restN a.fst p) : Int), ()) = some (some (↑(restN a.fst p) : Int), ()) ∧ True) ∧ (((68 : Nat) = (68 : Nat) ∧ a = a) ∧ ((22 : Nat) = (22 : Nat) ∧ p = p) ∧ ((3 : Nat) = (3 : Nat) ∧ i = i) ∧ ((3 : Nat) = (3 : Nat) ∧ o = o) ∧ ((3 : Nat) = (3 : Nat) ∧ gotR a p o = gotR a p o) ∧ (True ∧ True) ∧ ((3 : Nat) = (3 : Nat) ∧ (↑(restN a.fst p) : Int) = (↑(restN a.fst p) : Int)) ∧ ((3 : Nat) = (3 : Nat) ∧ outR a p i o x = outR a p i o x_1) ∧ (True ∧ True) ∧ ((3 : Nat) = (3 : Nat) ∧ yesR a p i o (bitsOf (↑(restN a.fst p) : Int)) = yesR a p i o (bitsOf (↑(restN a.fst p) : Int))) ∧ (True ∧ True) ∧ ((3 : Nat) = (3 : Nat) ∧ (↑(popN (↑(restN a.fst p) : Int).toNat) : Int) = (↑(popN (↑(restN a.fst p) : Int).toNat) : Int)) ∧ True) ∧ a = a ∧ p = p ∧ i = i ∧ o = o ∧ tabD = tabD ∧ True)) ∧ ∀ (x : List Int), True → x = bitsOf (↑(restN a.fst p) : Int) → k (SV.os (0 : Nat)) [Ob.row (3 : Nat) (I) (outR a p i o x)]))) := by kernel_rfl
end Go.Proofs.YtlopkkoenfngiaaDoor

/- Generals: asking. -/
namespace Go.Proofs.YtlopkkoenfngiaaDoor
open Go.Vc
theorem set1 (y : Int) : (List.replicate 1 (0 : Int)).set 0 y = [y] := rfl
theorem got_snoc (a : Ar) (p : List Int) (o : Int) (x : List Int) (y : Int) : gotL a p o (x ++ [y]) = (gotL a p o x).set y.toNat (sendsF a p y o) := by
  unfold gotL; rw [List.foldl_append]; rfl
theorem inc_snoc (l z x : List Int) (y : Int) : incL l z (x ++ [y]) = (incL l z x).set y.toNat ((incL l z x).getD y.toNat 0 + l.getD y.toNat 0) := by
  unfold incL; rw [List.foldl_append]; rfl
theorem yes_snoc (n : Int) (r : Nat) (l : Int → List Int) (x : List Int) (y : Int) : yesL n r l (x ++ [y]) = incL (l y) (yesL n r l x) (bitsOf (woN r y : Int)) := by
  unfold yesL; rw [List.foldl_append]; rfl
theorem out_snoc (n many : Int) (ye go x : List Int) (y : Int) : outL n many ye go (x ++ [y]) = if many < 2 * (ye.getD y.toNat 0 + go.getD y.toNat 0) then (outL n many ye go x).set y.toNat 1 else outL n many ye go x := by
  unfold outL; rw [List.foldl_append]; rfl
theorem ask_succ (a : Ar) (p : List Int) (i o : Int) (h0 : 0 < i) : askF a i.toNat p o = outR a p i o (bitsOf (restN a.1 p : Int)) := by
  obtain ⟨d, hd⟩ : ∃ d, i.toNat = d + 1 := ⟨i.toNat - 1, by omega⟩
  unfold outR yesR
  rw [hd]
  have e : lR a p i o = fun j => askF a d (p ++ [j]) ((gotL a p o (bitsOf (restN a.1 p : Int))).getD j.toNat 0) := by
    funext j; unfold lR gotR; rw [hd]; rfl
  rw [e]
  rfl
theorem pa_snoc {n : Int} {p : List Int} {y : Int} (h : PaOk n p) (hy : 0 ≤ y ∧ y < n) (hl : p.length < 3) : PaOk n (p ++ [y]) := by
  refine ⟨by simp, by simp; omega, fun z hz => ?_⟩
  rcases List.mem_append.1 hz with hz | hz
  · exact h.el z hz
  · rw [List.mem_singleton.1 hz]; exact hy
theorem ask_vc (d : Nat) (a : Ar) (p : List Int) (i o : Int) (k : SV → List Ob → Prop) (h : AskOk (d + 1) a p i o) (hk : k (.os 0) [.row 3 I (askF a i.toNat p o)]) :
    vcO ⟨En, [(41, cBitsF), (61, cSends), (47, cMany), (51, cAsk d)], glT, [(54, cBits)], []⟩ (anAsk a p i o) (Tryd.f51.body.getD .skip) Tryd.f51.ntmps [(.tmp 8, .un)] [.d tAr a, .d (.sl I) p, .d I i, .d I o] [] k := by
  rw [vcAsk]
  simp only [eq_self, and_true, true_and, exists_eq_left, forall_const, implies_true, true_implies, Int.toNat_zero, List.drop_zero, Int.toNat_natCast, List.take_length, Int.one_mul, set1, List.append_eq]
  have hn := h.ar.n7
  have hn1 := h.ar.n1
  have hp3 := h.pa.le
  have hp0 := h.pa.ne
  have el : ∀ y ∈ p, 0 ≤ y ∧ y < 7 := fun y hy => by have := h.pa.el y hy; omega
  have hr := rest_lt64 hn p
  have hm : ∀ {x : List Int} {y : Int} {r : List Int}, bitsOf (restN a.1 p : Int) = x ++ y :: r → 0 ≤ y ∧ y < a.1 := fun {x y r} e => by
    have := rest_mem (by omega) hn p (y := y) (by rw [e]; simp)
    exact ⟨this.1, this.2.1⟩
  have hxl : ∀ {s : Int} {x : List Int} {y : Int} {r : List Int}, bitsOf s = x ++ y :: r → x.length < 64 := fun {s x y r} e => by
    have := bitsOf_len s
    rw [e] at this; simp at this; omega
  have hod := h.od
  have gl : (gotR a p o).length = a.1.toNat := got_len ..
  have gb : ∀ j, 0 ≤ (gotR a p o).getD j 0 ∧ (gotR a p o).getD j 0 ≤ 1 := got_bd h.ar p hod _
  refine ⟨by omega, by omega, by omega, ⟨0, by omega, rfl, rfl⟩, fun x hx => ⟨fun h1 => ?_, fun h1 => ?_⟩⟩
  · have hxl : x < p.length := by have := of_decide_eq_true h1; omega
    have hy := el _ (getD_mem hxl)
    have h2 := two_pow_le (n := (p.getD x 0).toNat) (by omega)
    have h3 := two_pow_pos (p.getD x 0).toNat
    refine ⟨by omega, by omega, hy.1, by omega, rfl, inK_i64.2 (by omega), by omega, by omega, inK_i64.2 (by omega), x + 1, by omega, by omega, ?_, by omega⟩
    rw [take_snoc hxl, onN_snoc, powC, Int.toNat_natCast]
  have hxe : x = p.length := by have := of_decide_eq_false h1; omega
  subst hxe
  rw [List.take_length]
  have h2 := two_pow_le (n := a.1.toNat) (by omega)
  have h3 := two_pow_pos a.1.toNat
  refine ⟨⟨by omega, by omega, rfl, inK_i64.2 (by omega), inK_i64.2 (by omega), by omega, by omega, 0, ?_⟩, ⟨rfl, fun x y r e => ?_, fun x e => ⟨0, by rw [e]; rfl⟩⟩, fun hi => ?_, fun hi => ?_⟩
  · have e : ((2 : Int) ^ a.1.toNat - 1).toNat = 2 ^ a.1.toNat - 1 := by rw [powC]; omega
    rw [e]; rfl
  · have hy := hm e
    exact ⟨⟨h.ar, h.pa, hy⟩, hy.1, by rw [got_len]; omega, (got_snoc ..).symm⟩
  · have : i = 0 := of_decide_eq_true hi
    subst this
    exact hk
  have hi0 : 0 < i := by have := of_decide_eq_false hi; have := h.k0; omega
  have hk3 := h.k3
  have hkd := h.kd
  have lb : ∀ (y : Int), ∀ j, 0 ≤ (lR a p i o y).getD j 0 ∧ (lR a p i o y).getD j 0 ≤ 1 := fun y j => ask_bd h.ar _ _ (gb _) j
  have ll : ∀ y, (lR a p i o y).length = a.1.toNat := fun y => ask_len ..
  have le : ∀ y, askF a (i - 1).toNat (p ++ [y]) ((gotR a p o).getD y.toNat 0) = lR a p i o y := fun y => by
    unfold lR; congr 1; omega
  have yl : ∀ x, (yesR a p i o x).length = a.1.toNat := fun x => yes_len ..
  have yb : ∀ x j, 0 ≤ (yesR a p i o x).getD j 0 ∧ (yesR a p i o x).getD j 0 ≤ 64 * x.length := fun x j => yes_bd x (fun i _ j => lb i j) j
  refine ⟨by omega, by omega, by omega, by omega, by omega, by omega, ⟨rfl, fun x y r e => ?_, fun x e => ⟨0, by rw [e]⟩⟩, ⟨by omega, by omega⟩, rfl, fun x y r e => ?_, ?_⟩
  · have hy := hm e
    have hx64 := hxl e
    have ok : AskOk d a (p ++ [y]) (i - 1) ((gotR a p o).getD y.toNat 0) := ⟨h.ar, pa_snoc h.pa hy (by omega), gb _, by omega, by omega, by simp; omega⟩
    have h4 := two_pow_le (n := y.toNat) (by omega)
    have h5 := two_pow_pos y.toNat
    have ap : 0 < p.length ∧ 0 < [y].length ∧ p.length + [y].length ≤ 1000000000 := ⟨hp0, by simp, by simp; omega⟩
    have ew : ((restN a.1 p ^^^ restN a.1 p &&& ((2 : Int) ^ y.toNat).toNat : Nat) : Int) = (woN (restN a.1 p) y : Int) := by
      rw [powC, Int.toNat_natCast]; rfl
    simp only [le, ew]
    refine ⟨by omega, by omega, by omega, ap, inK_i64.2 (by omega), hy.1, by omega, ok, by omega, by omega, by omega, ap, inK_i64.2 (by omega), hy.1, by omega, ok, hy.1, by omega, rfl, inK_i64.2 (by omega), by omega, by omega, rfl, fun x1 y1 r1 e1 => ?_, fun x1 e1 => ?_⟩
    · have hz := (wo_mem hr (j := y) (y := y1) (by rw [e1]; simp)).1
      have hz := rest_mem (by omega) hn p hz
      have hx1 := hxl e1
      have b1 := inc_bd (lb y) y1.toNat x1 (yesR a p i o x) (64 * x.length) (yb x) (by omega)
      have b2 := lb y y1.toNat
      have il : (incL (lR a p i o y) (yesR a p i o x) x1).length = a.1.toNat := by rw [inc_len, yl]
      refine ⟨hz.1, by omega, hz.1, by rw [ll]; omega, inK_i64.2 (by omega), hz.1, by omega, (inc_snoc ..).symm⟩
    · rw [e1]; exact (yes_snoc ..).symm
  · have hy := hm e
    have b1 := yb (bitsOf (restN a.1 p : Int)) y.toNat
    have b0 := bitsOf_len (restN a.1 p : Int)
    have b2 := gb y.toNat
    have yl' := yl (bitsOf (restN a.1 p : Int))
    have ol : (outR a p i o x).length = a.1.toNat := out_len ..
    refine ⟨hy.1, by omega, hy.1, by omega, inK_i64.2 (by omega), inK_i64.2 (by omega), fun hc => ⟨hy.1, by omega, ?_⟩, fun hc => ?_⟩
    · unfold outR
      rw [out_snoc, if_pos (of_decide_eq_true hc)]
    · unfold outR
      rw [out_snoc, if_neg (of_decide_eq_false hc)]
  · intro x e
    rw [e, ← ask_succ a p i o hi0]
    exact hk
end Go.Proofs.YtlopkkoenfngiaaDoor
