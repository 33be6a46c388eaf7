/- How many zeros a number ends with: the library's function, walked; the iterator over the things of a set. -/
import Derived.Test.YtlopkkoenfngiaaDoorChecked
import Derived.Shelf.Spec.TrailingZeros
import Derived.RangeFuncNested
import Derived.RangeFuncBound
import Derived.RangeFuncCalls
import Derived.RangeFuncLeaves
import Derived.Shelf.Abstract
import Derived.Shelf.RegionOpen
import Derived.WalkKit
import Derived.OwnWalkIn
import Derived.TacticsInMore
import Derived.LoopNIn
import Derived.LoopIn
import Derived.Test.YtlopkkoenfngiaaDoorVcQ
import Derived.Test.YtlopkkoenfngiaaDoorRows
namespace Go.Proofs.YtlopkkoenfngiaaDoor
open Go.RowKit Go.Shelf
attribute [local go_sem] Oper.semAt_some

set_option maxHeartbeats 1000000 in
theorem tz64_core (x k idx : Nat) (w : World) (hx0 : ((x : Int) == 0) = false)
    (key : IntKind.u64.wrap (bits BinOp.and IntKind.u64 (x : Int) (IntKind.u64.wrap (-(x : Int))) * 285870213051353865) / 288230376151711744 = (idx : Int))
    (hi : idx < 64) (hk : k < 64) (hcell : w.cell? ⟨2, idx, none⟩ = some (.int .u8 k)) :
    Calls Tryd.prog 63 #[.int .u64 x] w fun e w' => e = .returned (.int .i64 k) ∧ w' = w := by
  go_enter Tryd.func63, Tryd.ntmps63
  go_wp2_with (simp only [key])
  go_ret
  exact ⟨rfl, rfl⟩

theorem tz64_zero (w : World) : Calls Tryd.prog 63 #[.int .u64 0] w fun e w' => e = .returned (.int .i64 64) ∧ w' = w := by
  go_enter Tryd.func63, Tryd.ntmps63
  go_wp2
  go_ret
  exact ⟨rfl, rfl⟩

theorem tz64 (x : Nat) (hx : x < 18446744073709551616) (w : World) (hT : x ≠ 0 → TabAt 2 Lib.deBruijn64tab w) :
    Calls Tryd.prog 63 #[.int .u64 x] w fun e w' => e = .returned (.int .i64 (Lib.ctz 64 x)) ∧ w' = w := by
  by_cases hx0 : x = 0
  · subst hx0
    exact tz64_zero w
  · obtain ⟨hlow, hk⟩ := Lib.lowest_bit 64 x hx0 hx
    obtain ⟨hi, htab⟩ := Lib.deBruijn64_at _ hk
    have hcell := hT hx0 _ hi
    rw [htab] at hcell
    exact tz64_core x _ _ w (by simp; omega) (tz64_key x _ hx hx0 hlow) hi hk hcell

theorem tz (x : Nat) (hx : x < 18446744073709551616) (w : World) (hT : x ≠ 0 → TabAt 2 Lib.deBruijn64tab w) :
    Calls Tryd.prog 55 #[.int .u64 x] w fun e w' => e = .returned (.int .i64 (Lib.ctz 64 x)) ∧ w' = w := by
  go_enter Tryd.func55, Tryd.ntmps55
  go_wp2_with (go_at_call 63; refine (tz64 x hx _ hT).mono ?_; rintro e w' ⟨rfl, rfl⟩)
  go_ret
  exact ⟨rfl, rfl⟩
end Go.Proofs.YtlopkkoenfngiaaDoor

/- The iterator over the things of a set hands on the places of its bits, rising. -/
namespace Go.Proofs.YtlopkkoenfngiaaDoor
open Go.RowKit Go.Shelf Go.Vc
attribute [local go_sem] Oper.semAt_some

theorem ctz_facts {r : Nat} (h0 : r ≠ 0) (h : r < 2 ^ 64) : Lib.ctz 64 r < 64 ∧ r.testBit (Lib.ctz 64 r) = true ∧ (∀ i, i < Lib.ctz 64 r → r.testBit i = false) ∧ ∀ i, (r &&& (r - 1)).testBit i = (r.testBit i && !decide (i = Lib.ctz 64 r)) := by
  have hc : Lib.ctz 64 r = Lib.ctzFrom 64 r := by unfold Lib.ctz; rw [if_neg h0]
  obtain ⟨m, hm, hlt⟩ := Lib.ctzFrom_spec 64 r (by omega) h
  rw [hc]
  generalize Lib.ctzFrom 64 r = t at *
  have hb : ∀ i, r.testBit i = (decide (t ≤ i) && (2 * m + 1).testBit (i - t)) := by
    intro i; rw [hm, Nat.testBit_two_pow_mul]
  have hpos : 0 < 2 ^ t := Nat.two_pow_pos t
  have hr1 : r - 1 = 2 ^ t * (2 * m) + (2 ^ t - 1) := by
    rw [hm, Nat.mul_add, Nat.mul_one]; omega
  have hb1 : ∀ i, (r - 1).testBit i = if i < t then (2 ^ t - 1).testBit i else (2 * m).testBit (i - t) := by
    intro i; rw [hr1, Nat.testBit_two_pow_mul_add _ (by omega)]
  refine ⟨hlt, ?_, fun i hi => ?_, fun i => ?_⟩
  · rw [hb]; simp
  · rw [hb]; simp; omega
  · rw [Nat.testBit_and, hb1, hb]
    by_cases h1 : i < t
    · rw [if_pos h1]
      have : decide (t ≤ i) = false := by simpa using h1
      rw [this]; simp
    · rw [if_neg h1]
      have : decide (t ≤ i) = true := by simpa using h1
      rw [this, Bool.true_and]
      by_cases h2 : i = t
      · subst h2; simp
      · obtain ⟨j, hj⟩ : ∃ j, i - t = j + 1 := ⟨i - t - 1, by omega⟩
        rw [hj, Nat.testBit_add_one, Nat.testBit_add_one, show (2 * m + 1) / 2 = m by omega, show 2 * m / 2 = m by omega]
        simp [h2]

def u64Of : Value → Nat
  | .int _ n => n.toNat
  | _ => 0
def bitsN (n : Nat) : List Nat := (List.range' 0 64).filter n.testBit

theorem filter_from (f : Nat → Bool) : ∀ (d p t : Nat), p + d = t → t < 64 → (∀ i, p ≤ i → i < t → f i = false) → f t = true → (List.range' p (64 - p)).filter f = t :: (List.range' (t + 1) (64 - (t + 1))).filter f := by
  intro d
  induction d with
  | zero =>
    intro p t ht h64 _ hft
    have : p = t := by omega
    subst this
    rw [show 64 - p = (64 - (p + 1)) + 1 by omega, List.range'_succ, List.filter_cons, if_pos hft]
  | succ d ih =>
    intro p t ht h64 hf hft
    rw [show 64 - p = (64 - (p + 1)) + 1 by omega, List.range'_succ, List.filter_cons, if_neg (by rw [hf p (Nat.le_refl _) (by omega)]; decide)]
    exact ih (p + 1) t (by omega) h64 (fun i h1 h2 => hf i (by omega) h2) hft

set_option maxRecDepth 100000 in
set_option maxHeartbeats 2000000 in
theorem bits1_in (F : Fence) (h45 : F.fn 54) (h46 : F.fn 55) (hro : F.round = none) (htz : ∀ (m x : Nat) (w : World), x < 18446744073709551616 → TabAt 2 Lib.deBruijn64tab w → CallsIn F m Tryd.prog 55 #[.int .u64 x] w fun e w' => e = .returned (.int .i64 (Lib.ctz 64 x)) ∧ w' = w) (n l : Nat) (hn : 1 ≤ n) (b : Nat) (o : Nat) (s : Int) (hs : inK .i64 s) (J Jx : Nat → World → Prop) (W : World)
    (hR : ∀ k W', J k W' → W'.cell? ⟨b, o, none⟩ = some (.int .i64 s) ∧ TabAt 2 Lib.deBruijn64tab W')
    (hY : ∀ m k x W1, ((bitsN (s % 18446744073709551616).toNat).map fun (i : Nat) => Value.int .i64 (i : Int))[k]? = some x → J k W1 →
      YieldAt F m Tryd.prog l #[x] W1 fun e W' => (e = .returned (.bool true) ∧ J (k + 1) W') ∨ (e = .returned (.bool false) ∧ Jx (k + 1) W')) (h0 : J 0 W) :
    CallsIn F n Tryd.prog 54 #[.func (.yield l) #[] #[], .pointer (some ⟨b, o, none⟩)] W fun e W' => (∃ v, e = .returned v) ∧ (J (bitsN (s % 18446744073709551616).toNat).length W' ∨ ∃ k, Jx k W') := by
  obtain ⟨N, hN⟩ : ∃ N, N = (s % 18446744073709551616).toNat := ⟨_, rfl⟩
  have hN64 : N < 18446744073709551616 := by omega
  have hw : IntKind.u64.wrap s = (N : Int) := by rw [IntKind.wrap_u64]; omega
  rw [← hN] at hY ⊢
  refine callsIn_of_wp Tryd.func54 rfl h45 ?_ hro
  simp only [Tryd.ntmps54, List.size_toArray, List.length_cons, List.length_nil, Nat.reduceAdd, Nat.reduceSub, Array.replicate_succ, Array.replicate_zero, List.push_toArray, List.append_toArray, List.nil_append, List.cons_append]
  have hc0 := (hR 0 W h0).1
  gi_wp2
  have hmx : max (s % 18446744073709551616) 0 = (N : Int) := by omega
  simp only [hmx]
  gi_loopw [3] (fun p wr => ∃ (r q k : Nat), p = .int .u64 (r : Int) ∧ r < 18446744073709551616 ∧ q ≤ 64 ∧ (∀ i, r.testBit i = (decide (q ≤ i) && N.testBit i)) ∧ (bitsN N).drop k = (List.range' q (64 - q)).filter N.testBit ∧ k ≤ (bitsN N).length ∧ J k wr)
    (fun p _ => u64Of p)
  case atStart =>
    exact ⟨N, 0, 0, rfl, hN64, by omega, fun i => by simp, rfl, by omega, h0⟩
  case round =>
    obtain ⟨r, q, k, rfl, hr, hq, hb, hd, hk, hJ⟩ := hrel
    obtain ⟨hc, hT⟩ := hR k wr hJ
    by_cases h0 : r = 0
    · subst h0
      have hkl : k = (bitsN N).length := by
        have : (List.range' q (64 - q)).filter N.testBit = [] := by
          rw [List.filter_eq_nil_iff]
          intro i hi
          have hqi := (List.mem_range'_1.1 hi).1
          have := hb i
          simp only [Nat.zero_testBit, decide_eq_true hqi, Bool.true_and] at this
          rw [← this]; decide
        rw [this, List.drop_eq_nil_iff] at hd
        omega
      subst hkl
      gi_wp2
      go_end0
      exact ⟨⟨_, rfl⟩, .inl hJ⟩
    · obtain ⟨f1, f2, f3, f4⟩ := ctz_facts h0 hr
      obtain ⟨t, ht⟩ : ∃ t, t = Lib.ctz 64 r := ⟨_, rfl⟩
      rw [← ht] at f1 f2 f3 f4
      have hqt : q ≤ t := by
        have := hb t; rw [f2] at this
        simp only [Bool.true_eq, Bool.and_eq_true, decide_eq_true_eq] at this; exact this.1
      have hNt : N.testBit t = true := by
        have := hb t; rw [f2] at this
        simp only [Bool.true_eq, Bool.and_eq_true, decide_eq_true_eq] at this; exact this.2
      have hd2 := filter_from N.testBit (t - q) q t (by omega) f1 (fun i h1 h2 => by
        have := hb i; rw [f3 i h2] at this
        simpa [h1] using this.symm) hNt
      rw [hd2] at hd
      have hkl : k < (bitsN N).length := by
        rcases Nat.lt_or_ge k (bitsN N).length with h | h
        · exact h
        · rw [List.drop_of_length_le h] at hd; cases hd
      have hxk : (bitsN N)[k]? = some t := by
        rw [List.drop_eq_getElem_cons hkl] at hd
        injection hd with hd1 _
        rw [List.getElem?_eq_getElem hkl, hd1]
      have hdk : (bitsN N).drop (k + 1) = (List.range' (t + 1) (64 - (t + 1))).filter N.testBit := by
        rw [List.drop_eq_getElem_cons hkl] at hd
        injection hd
      obtain ⟨fn, tmps, assign, body, hy, hRd⟩ := hY (n - 1) k (.int .i64 (t : Int)) wr (by rw [List.getElem?_map, hxk]; rfl) hJ
      have hne : ((r : Int) == 0) = false := by simp; omega
      have hnext : ∀ W', J (k + 1) W' → ∃ (r' q' k' : Nat), (Value.int .u64 ((r &&& (r - 1) : Nat) : Int) : Value) = .int .u64 (r' : Int) ∧ r' < 18446744073709551616 ∧ q' ≤ 64 ∧ (∀ i, r'.testBit i = (decide (q' ≤ i) && N.testBit i)) ∧
          (bitsN N).drop k' = (List.range' q' (64 - q')).filter N.testBit ∧ k' ≤ (bitsN N).length ∧ J k' W' := by
        intro W' hJ'
        refine ⟨r &&& (r - 1), t + 1, k + 1, rfl, Nat.lt_of_le_of_lt Nat.and_le_left hr, f1, fun i => ?_, hdk, hkl, hJ'⟩
        rw [f4, hb]
        by_cases h1 : i = t
        · have hni : decide (t + 1 ≤ i) = false := decide_eq_false (by omega)
          rw [hni, decide_eq_true h1]; simp
        · by_cases h2 : q ≤ i
          · by_cases h3 : t + 1 ≤ i
            · simp [h1, h2, h3]
            · have := hb i; rw [f3 i (by omega)] at this
              simp only [h2, decide_true, Bool.true_and] at this
              rw [← this]; simp
          · have h3 : ¬ t + 1 ≤ i := by omega
            simp [h2, h3]
      have hmeas : u64Of (.int .u64 ((r &&& (r - 1) : Nat) : Int)) < r := by
        show ((r &&& (r - 1) : Nat) : Int).toNat < r
        rw [Int.toNat_natCast]
        have : r &&& (r - 1) ≤ r - 1 := Nat.and_le_right
        omega
      have hand : ∀ (x : Int), x = (r : Int) - 1 → bits .and .u64 (r : Int) x = ((r &&& (r - 1) : Nat) : Int) := by
        intro x hx
        rw [hx, show (r : Int) - 1 = ((r - 1 : Nat) : Int) by omega, bits_and_u64_nat r _ hr (by omega)]
      have htz' := htz
      clear hb hd hdk hd2 f1 f2 f3 f4 hNt hqt hxk hkl hY hR hmx hw hN hN64 hq hk
      subst ht
      gi_wp2_with (gi_at_call 55; refine (htz _ r _ hr hT).mono ?_; rintro e w' ⟨rfl, rfl⟩)
      refine hRd.mono ?_
      rintro e W' (⟨rfl, hJ'⟩ | ⟨rfl, hJx'⟩)
      · have hsub : IntKind.u64.wrap ((r : Int) - 1) = (r : Int) - 1 := by rw [IntKind.wrap_u64]; omega
        have hand' := hand _ rfl
        gi_wp2
        exact ⟨hnext _ hJ', by show _ < ((r : Int)).toNat; rw [Int.toNat_natCast]; exact hmeas⟩
      · gi_wp2
        refine bodyPost_ret (results_none rfl _ _ _) rfl ?_
        exact ⟨⟨_, rfl⟩, .inr ⟨_, hJx'⟩⟩

abbrev tabD : List Int := [0, 1, 56, 2, 57, 49, 28, 3, 61, 58, 42, 50, 38, 29, 17, 4, 62, 47, 59, 36, 45, 43, 51, 22, 53, 39, 33, 30, 24, 18, 12, 5,
  63, 55, 48, 27, 60, 41, 37, 16, 46, 35, 44, 21, 52, 32, 23, 11, 54, 26, 40, 15, 34, 20, 31, 10, 25, 14, 19, 9, 13, 8, 7, 6]
/-- the library's table -/
def glT : List (Nat × Dat) := [(2, ⟨.ar 64 (.int .u8), tabD⟩)]

theorem tab_of {w : World} {ro : Nat → Prop} (h : GlOk glT w ro) : TabAt 2 Lib.deBruijn64tab w := by
  obtain ⟨_, us, h1, hn, css, hcs, hok⟩ := h 2 _ (List.mem_singleton.2 rfl)
  have hlen : css.length = 64 := hok.1
  have hflat : ∀ (xs : List Int) (css : List (List Value)), css.length = xs.length → (∀ (i : Nat) x u, xs[i]? = some x → css[i]? = some u → u = [Value.int .u8 x]) → css.flatten = xs.map (Value.int .u8) := by
    intro xs
    induction xs with
    | nil => intro css h _; cases css with
      | nil => rfl
      | cons => cases h
    | cons x r ih =>
      intro css h hx
      cases css with
      | nil => cases h
      | cons c cs =>
        rw [List.flatten_cons, hx 0 x c rfl rfl, ih cs (by simpa using h) (fun i x u h1 h2 => hx (i + 1) x u (by simpa using h1) (by simpa using h2))]
        rfl
  have hus : us = tabD.map (Value.int .u8) := by
    rw [hcs]
    exact hflat tabD css hok.1 fun i x u h1 h2 => (hok.2 i x u h1 h2).2.1
  intro j hj
  apply h1
  rw [hus, List.getElem?_map]
  have hj' : j < 64 := hj
  have : ∀ j : Fin 64, tabD[j.1]? = some ((Lib.deBruijn64tab.getD j.1 0 : Nat) : Int) := by decide
  rw [this ⟨j, hj'⟩]; rfl

/-- what the iterator over the things of a set hands on -/
def bitsOf (s : Int) : List Int := (bitsN (s % 18446744073709551616).toNat).map fun (i : Nat) => (i : Int)
def cBits : ItC := ⟨.pr (.ptr (.int .i64)) .un, .int .i64, fun x => match x.1 with
  | some s => some (bitsOf s)
  | none => none⟩

theorem itBits : ItOk Tryd.prog glT 54 cBits := by
  refine ⟨⟨_, Tryd.func54, rfl, rfl⟩, fun y xs hy => ?_⟩
  obtain ⟨y1, y2⟩ := y
  cases y1 with
  | none => cases hy
  | some s =>
    have hy : some (bitsOf s) = some xs := hy
    injection hy with hy; subst hy
    refine ⟨fun x hx w ro => ?_, fun caps n l J Jx W hJ hJx hG hY h0 => ?_⟩
    · unfold bitsOf at hx
      obtain ⟨i, hi, rfl⟩ := List.mem_map.1 hx
      have := (List.mem_range'_1.1 (List.mem_filter.1 hi).1).2
      exact ⟨rfl, inK_i64.2 ⟨by omega, by omega⟩⟩
    · have hR0 := (hG 0 W h0).2
      obtain ⟨c1, c2, hcs, ⟨ad, us, hc1, hsp, hblk, hcell, hus, hin⟩, hc2⟩ := hR0
      have hc2' : c2 = [] := hc2
      have hcaps : caps = #[.pointer (some ad)] := by apply Array.toList_inj.1; rw [hcs, hc1, hc2']; rfl
      subst hcaps
      obtain ⟨b, o, sp⟩ := ad
      have hsp' : sp = none := hsp
      subst hsp'
      have hmap : (bitsOf s).map (fun x => (Ty.int .i64).mk ((Ty.int .i64).cv x)) = (bitsN (s % 18446744073709551616).toNat).map fun (i : Nat) => Value.int .i64 (i : Int) := by
        unfold bitsOf; rw [List.map_map]; rfl
      have hlen : ((bitsOf s).map (fun x => (Ty.int .i64).mk ((Ty.int .i64).cv x))).length = (bitsN (s % 18446744073709551616).toNat).length := by rw [hmap, List.length_map]
      have hmap' : (bitsOf s).map (fun x => cBits.e.mk (cBits.e.cv x)) = (bitsN (s % 18446744073709551616).toNat).map fun (i : Nat) => Value.int .i64 (i : Int) := hmap
      have hlen' : ((bitsOf s).map (fun x => cBits.e.mk (cBits.e.cv x))).length = (bitsN (s % 18446744073709551616).toNat).length := hlen
      rw [hlen']
      rw [hmap'] at hY
      have key := bits1_in (FW none) trivial trivial rfl (fun m x w hx hT => callsIn_wide.2 (tz x hx w fun _ => hT)) (n + 1) l (by omega) b o s hin J Jx W (fun k W' hk => ?_) hY h0
      · exact callsIn_FW.2 (callsIn_FW.1 key)
      · obtain ⟨g1, g2⟩ := hG k W' hk
        refine ⟨?_, tab_of g1⟩
        obtain ⟨c1, c2, hcs, ⟨ad, us, hc1, _, _, hcell, hus, _⟩, hc2⟩ := g2
        rw [hc1] at hcs
        have hc2' : c2 = [] := hc2
        rw [hc2'] at hcs
        injection hcs with hcs _
        injection hcs with hcs; injection hcs with hcs
        subst hcs
        have := hcell 0 (.int .i64 s) (by rw [hus]; rfl)
        simpa [addr_add] using this
end Go.Proofs.YtlopkkoenfngiaaDoor

/- Quorums: what the small functions answer. -/
namespace Go.Proofs.YtlopkkoenfngiaaDoor
open Go.Vc
abbrev I : Ty := .int .i64
abbrev tErr : Ty := .err 58
abbrev tB : Ty := .fn 54 (.pr (.ptr I) .un)
abbrev tF (g : Nat) : Ty := .fn g (.pr (.ptr I) .un)
abbrev tW : Ty := .fn 40 (.pr (.ptr (.sl I)) .un)
def Ef (g : Nat) : Env := { tys := [(3, I), (4, .bool), (22, .sl I), (25, tErr), (28, tW), (61, tB), (64, tF g)], errT := 58, eqs := [], els := [(22, 3)] }
def Et : Env := Ef 56
def Et2 : Env := Ef 46
theorem Et_ok : EnvOk Tryd.prog Et := EnvOk.of_list (by kernel_rfl) (by kernel_rfl) (by kernel_rfl)
theorem Et2_ok : EnvOk Tryd.prog Et2 := EnvOk.of_list (by kernel_rfl) (by kernel_rfl) (by kernel_rfl)
def an1 (α : Type) (r : Nat) (st : St → α → St) (ok : α → Prop) (mu : α → Nat) : Ann := [loopAt r α [] st (fun _ => ok) mu]
def inB (n lo hi : Int) : Bool := decide (lo ≤ n) && decide (n ≤ hi)
def cWithin : Ctr := cdet [I, I, I] (fun _ _ _ => True) (fun a b c => [⟨.bool, inB a b c⟩])
def cPow2 : Ctr := cdet [I] (fun (n : Int) => n ≤ 61 ∧ True) (fun (n : Int) => [⟨I, (2 : Int) ^ n.toNat⟩])
def bitB (s i : Int) : Bool := decide (0 ≤ s) && s.toNat.testBit i.toNat
def cBit : Ctr := cdet [I, I] (fun _ _ => True) (fun s i => [⟨.bool, bitB s i⟩])
def subN : Nat → Nat → Int → Bool
  | 0, _, _ => true
  | f + 1, a, b => if a = 0 then true else if a % 2 = 1 ∧ b.tmod 2 = 0 then false else subN f (a / 2) (b.tdiv 2)
/-- are all things of the one set in the other one? -/
def subB (a b : Int) : Bool := subN a.toNat a.toNat b
def cSub : Ctr := cdet [I, I] (fun _ _ => True) (fun a b => [⟨.bool, subB a b⟩])
def anPow2 (n : Int) : Ann := an1 Nat 3 (fun st i => St.at st [(3, .d I ((2 : Int) ^ i)), (4, .d I (i : Int))]) (fun i => i ≤ n.toNat ∧ True) (fun i => n.toNat - i)
def anBit (s i : Int) : Ann := an1 Nat 2 (fun st k => St.at st [(0, .d I (s.tdiv (2 ^ k))), (5, .d I (k : Int))]) (fun k => k ≤ i.toNat ∧ True) (fun k => i.toNat - k)
def anSub (a b : Int) : Ann := an1 (Int × Int) 1 (fun st x => St.at st [(0, .d I x.1), (1, .d I x.2)]) (fun x => subB a b = subB x.1 x.2 ∧ inK .i64 x.1 ∧ inK .i64 x.2) (fun x => x.1.toNat)
def cInts : Ctr := cdet [.sl I, .sl I] (fun _ _ => True) (fun (a b : List Int) => [⟨.bool, a == b⟩])
def anInts (a b : List Int) : Ann := an1 Nat 4 (fun st i => St.at st [(5, .d I (i : Int))]) (fun i => i ≤ a.length ∧ a.take i = b.take i) (fun i => a.length - i)
end Go.Proofs.YtlopkkoenfngiaaDoor

/- Quorums: what the package's functions answer. -/
namespace Go.Proofs.YtlopkkoenfngiaaDoor
open Go.Vc
def cBoth : Ctr := cdet [I, I] (fun (a b : Int) => a < 2305843009213693952 ∧ True) (fun (a b : Int) => [⟨I, ((a.toNat &&& b.toNat : Nat) : Int)⟩])
def anBoth (a b : Int) : Ann := [joinAll, loopAt 3 Nat [] (fun st k => St.at (St.only st [4]) [(0, .d I (a.tdiv (2 ^ k))), (1, .d I (b.tdiv (2 ^ k))), (5, .d I (((a.toNat &&& b.toNat) % 2 ^ k : Nat) : Int)), (6, .d I ((2 : Int) ^ k))]) (fun _ k => k ≤ 61 ∧ True) (fun k => 62 - k)]
def maskB (s n : Int) : Bool := decide (0 ≤ s) && decide (s < 2 ^ n.toNat)
def cMask : Ctr := cdet [I, I] (fun (_ n : Int) => 0 ≤ n ∧ n ≤ 61) (fun (s n : Int) => [⟨.bool, maskB s n⟩])
def meetB (a b : Int) : Bool := decide (((a.toNat &&& b.toNat : Nat) : Int) ≠ 0)
/-- what is wrong with a set -/
def setE (n : Int) (l : List Int) (i : Nat) : Int :=
  if maskB (l.getD i 0) n = false then 1 else if l.getD i 0 = 0 then 3 else if (l.take i).all (fun t => meetB (l.getD i 0) t) = true then 0 else 6
def setsE (n : Int) (l : List Int) : Nat → Nat → Int
  | 0, _ => 0
  | f + 1, i => if setE n l i = 0 then setsE n l f (i + 1) else setE n l i
def chkS (n : Int) (l : List Int) : Int := if inB n 1 8 = false then 1 else if l.length = 0 then 5 else if 20 < l.length then 4 else setsE n l l.length 0
def cCheck : Ctr := cdet [I, .sl I] (fun _ _ => True) (fun n l => [⟨tErr, chkS n l⟩])
def inCheck (n : Int) (l : List Int) (i : Nat) : Prop := chkS n l = setsE n l (l.length - i) i ∧ i ≤ l.length ∧ inB n 1 8 = true ∧ ∀ j, j < i → setE n l j = 0
def anCheck (n : Int) (l : List Int) : Ann :=
  [joinAll, loopAt 8 Nat [] (fun st i => St.at (St.only st [0, 1, 4, 21, 22]) [(23, .d I (i : Int))]) (fun _ i => inCheck n l i) (fun i => l.length - i),
   loopAt 15 Nat [] (fun st j => St.at (St.only st [0, 1, 4, 6, 21, 22, 23, 38, 39]) [(40, .d I (j : Int))]) (fun st j => j ≤ (st.i 23).toNat ∧ ∀ t ∈ (l.take (st.i 23).toNat).take j, meetB (l.getD (st.i 23).toNat 0) t = true) (fun j => l.length - j)]
/-- is the one in the other one? -/
def subS (s v : Int) : Bool := decide (((s.toNat ^^^ (s.toNat &&& v.toNat) : Nat) : Int) = 0)
def cHas1 : Ctr := cdet [I, .ptr I] (fun (s : Int) (p : Option Int) => 0 ≤ s ∧ ∃ v, p = some v ∧ 0 ≤ v) (fun (s : Int) (p : Option Int) => [⟨.bool, subS s (p.getD 0)⟩])
def lstB (v s : Int) : Bool := (!decide (s = v)) && subS s v
def cLeast1 : Ctr := cdet [I, .ptr I] (fun (s : Int) (p : Option Int) => 0 ≤ s ∧ ∃ v, p = some v ∧ 0 ≤ v) (fun (s : Int) (p : Option Int) => [⟨.bool, lstB (p.getD 0) s⟩])
/-- the place of the first one that answers -/
def idxP (p : Int → Bool) : List Int → Int → Int
  | [], _ => -1
  | x :: r, i => if p x = true then i else idxP p r (i + 1)
def cIdxF (g : Nat) (q : Int → Int → Bool) : Ctr := cdet [.sl I, tF g] (fun (l : List Int) (f : Option (Option Int × Unit)) => (∃ v, f = some (some v, ()) ∧ 0 ≤ v) ∧ ∀ s ∈ l, 0 ≤ s)
  (fun (l : List Int) (f : Option (Option Int × Unit)) => [⟨I, idxP (q ((f.getD (none, ())).1.getD 0)) l 0⟩])
def cConF (g : Nat) (q : Int → Int → Bool) : Ctr := cdet [.sl I, tF g] (fun (l : List Int) (f : Option (Option Int × Unit)) => (∃ v, f = some (some v, ()) ∧ 0 ≤ v) ∧ ∀ s ∈ l, 0 ≤ s)
  (fun (l : List Int) (f : Option (Option Int × Unit)) => [⟨.bool, l.any (q ((f.getD (none, ())).1.getD 0))⟩])
def anIdx (p : Int → Bool) (l : List Int) : Ann := [loopAt 2 Nat [] (fun st i => St.at (St.only st [0, 1, 4, 7]) [(8, .d I (i : Int))]) (fun _ i => i ≤ l.length ∧ idxP p l 0 = idxP p (l.drop i) (i : Int)) (fun i => l.length - i)]
def hasB (l : List Int) (v : Int) : Bool := l.any fun s => subS s v
def cHas0 : Ctr := cdet [.sl I, I] (fun (l : List Int) (v : Int) => 0 ≤ v ∧ ∀ s ∈ l, 0 ≤ s) (fun l v => [⟨.bool, hasB l v⟩])
def anHas0 : Ann := [freezeAt 1 [3]]
def hasE (n : Int) (l : List Int) (v : Int) : Int := if chkS n l = 0 then (if maskB v n = true then 0 else 1) else chkS n l
def cHas : Ctr := cdet [I, .sl I, I] (fun _ _ _ => True) (fun n l v => [⟨.bool, if hasE n l v = 0 then hasB l v else false⟩, ⟨tErr, hasE n l v⟩])
def cIdx : Ctr := cdet [.sl I, I] (fun _ _ => True) (fun (l : List Int) (v : Int) => [⟨I, idxP (fun s => decide (v = s)) l 0⟩])
def cCon : Ctr := cdet [.sl I, I] (fun _ _ => True) (fun (l : List Int) (v : Int) => [⟨.bool, l.any fun s => decide (v = s)⟩])
end Go.Proofs.YtlopkkoenfngiaaDoor

/- Quorums: the least sets, and whether they are full. -/
namespace Go.Proofs.YtlopkkoenfngiaaDoor
open Go.Vc
/-- all nodes but these -/
def complN (n x : Int) : Int := (((1 * (2 : Int) ^ n.toNat - 1).toNat ^^^ ((1 * (2 : Int) ^ n.toNat - 1).toNat &&& x.toNat) : Nat) : Int)
def neither (n : Int) (l : List Int) (x : Nat) : Bool := !hasB l (x : Int) && !hasB l (complN n (x : Int))
def firstP (p : Nat → Bool) : Nat → Nat → Option Nat
  | 0, _ => none
  | f + 1, i => if p i = true then some i else firstP p f (i + 1)
def fullO (n : Int) (l : List Int) : Option Nat := if chkS n l = 0 then firstP (neither n l) (2 ^ n.toNat) 0 else some 0
def isF (n : Int) (l : List Int) : Bool := (fullO n l).isNone
def someN (n : Int) (l : List Int) : Int := (((fullO n l).getD 0 : Nat) : Int)
def cFull : Ctr := cdet [I, .sl I] (fun _ _ => True) (fun n l => [⟨.bool, isF n l⟩, ⟨I, someN n l⟩, ⟨tErr, chkS n l⟩])
def anFull (n : Int) (l : List Int) : Ann :=
  [joinAll, loopAt 5 Nat [] (fun st i => St.at (St.only st [0, 1, 4, 5, 6, 16]) [(17, .d I (i : Int))]) (fun _ i => i ≤ 2 ^ n.toNat ∧ fullO n l = firstP (neither n l) (2 ^ n.toNat - i) i ∧ chkS n l = 0) (fun i => 2 ^ n.toNat - i)]
def leastB (l : List Int) (s : Int) : Bool := (l.any fun t => decide (s = t)) && !l.any (lstB s)
def leastU (l : List Int) (k : Nat) : List Int := ((List.range k).map fun (i : Nat) => (i : Int)).filter (leastB l)
def cLeast : Ctr := cdet [I, .sl I] (fun _ _ => True) (fun n l => [⟨.sl I, if chkS n l = 0 then leastU l (2 ^ n.toNat) else []⟩, ⟨tErr, chkS n l⟩])
def anLeast (n : Int) (l : List Int) : Ann :=
  [joinAll, freezeAt 8 [8], loopAt 6 Nat [(7, 3, I)] (fun st i => { St.at (St.only st [0, 1, 4, 5, 7, 16]) [(17, .d I (i : Int))] with ob := st.ob.set 0 (.row 3 I (leastU l i)) }) (fun _ i => i ≤ 2 ^ n.toNat ∧ chkS n l = 0) (fun i => 2 ^ n.toNat - i)]
end Go.Proofs.YtlopkkoenfngiaaDoor

/- Quorums: votes. -/
namespace Go.Proofs.YtlopkkoenfngiaaDoor
open Go.Vc
def cBitsF : Ctr := cdet [I] (fun _ => True) (fun (s : Int) => [⟨tB, some (some s, ())⟩])
def anBits : Ann := [freezeAt 1 [1]]
/-- the weights of some nodes, together -/
def sumL (w : List Int) (l : List Int) : Int := (l.map fun i => w.getD i.toNat 0).sum
def sumW (w : List Int) (s : Int) : Int := sumL w (bitsOf s)
def wOk (w : List Int) : Prop := w.length ≤ 8 ∧ ∀ x ∈ w, 0 ≤ x ∧ x ≤ 20
def cSumW : Ctr := cdet [I, .ptr (.sl I)] (fun (s : Int) (p : Option (List Int)) => ∃ w, p = some w ∧ wOk w ∧ 0 ≤ s ∧ s < 2 ^ w.length) (fun (s : Int) (p : Option (List Int)) => [⟨I, sumW (p.getD []) s⟩])
def anSumW (w : List Int) : Ann := [rangeAt 3 I (List Int) id (fun st l => { St.only st [1, 3, 6] with ob := st.ob.set 0 (.var 3 I (sumL w l)) }) (fun _ _ => True)]
def cSumL : Ctr := cdet [.sl I] (fun (l : List Int) => (∀ x ∈ l, 0 ≤ x ∧ x ≤ 20) ∧ l.length ≤ 8) (fun (l : List Int) => [⟨I, l.sum⟩])
def anSum (l : List Int) : Ann := [loopAt 3 Nat [] (fun st i => St.at (St.only st [0, 2]) [(4, .d I (i : Int)), (3, .d I (l.take i).sum)]) (fun _ i => i ≤ l.length) (fun i => l.length - i)]
/-- a set without one -/
def lessI (s i : Int) : Int := ((s.toNat ^^^ (s.toNat &&& (1 * (2 : Int) ^ i.toNat).toNat) : Nat) : Int)
def lowL (w : List Int) (need s : Int) (l : List Int) : Bool := decide (need ≤ sumW w s) && l.all fun i => decide (sumW w (lessI s i) < need)
def lowB (w : List Int) (need s : Int) : Bool := lowL w need s (bitsOf s)
def votesU (w : List Int) (need : Int) (k : Nat) : List Int := ((List.range k).map fun (i : Nat) => (i : Int)).filter (lowB w need)
def votesE (w : List Int) (need : Int) : Int :=
  if w.length = 0 then 5 else if 8 < w.length then 4 else if w.all (fun x => inB x 0 20) = false then 1 else if inB need 1 w.sum = false then 1 else if 2 * need ≤ w.sum then 6 else 0
def votesL (w : List Int) (need : Int) : List Int := if votesE w need = 0 then votesU w need (2 ^ w.length) else []
def cVotes : Ctr := cdet [.sl I, I] (fun _ _ => True) (fun w need => [⟨.sl I, votesL w need⟩, ⟨tErr, votesE w need⟩])
def anVotes (w : List Int) (need : Int) : Ann :=
  [joinAll, freezeAt 18 [2],
   loopAt 8 Nat [] (fun st i => St.at (St.only st [2, 3, 4, 5, 6, 23, 24]) [(25, .d I (i : Int)), (7, .d I (w.take i).sum)]) (fun _ i => i ≤ w.length ∧ 0 < w.length ∧ w.length ≤ 8 ∧ ∀ x ∈ w.take i, inB x 0 20 = true) (fun i => w.length - i),
   loopAt 21 Nat [(11, 3, I)] (fun st i => { St.at (St.only st [3, 4, 5, 6, 10, 11, 49]) [(50, .d I (i : Int))] with ob := st.ob.set 3 (.row 3 I (votesU w need i)) }) (fun _ i => i ≤ 2 ^ w.length ∧ votesE w need = 0) (fun i => 2 ^ w.length - i),
   rangeAt 26 I (List Int) id (fun st l => { St.only st [3, 4, 5, 6, 10, 11, 12, 13, 49, 50, 59] with ob := st.ob.set 5 (.var 4 .bool (lowL w need (st.i 50) l)) }) (fun _ _ => True)]
end Go.Proofs.YtlopkkoenfngiaaDoor

/- Quorums: the laws. -/
namespace Go.Proofs.YtlopkkoenfngiaaDoor
open Go.Vc
def cFact : Ctr := cdet [] True [⟨.bool, true⟩]
abbrev cLawV : Ctr := cdet [.sl I, I] (fun _ _ => True) (fun _ _ => [⟨.bool, true⟩])
abbrev cLawF : Ctr := cdet [I, .sl I, .sl I] (fun _ _ _ => True) (fun _ _ _ => [⟨.bool, true⟩])
abbrev cLawL : Ctr := cdet [I, .sl I, I] (fun _ _ _ => True) (fun _ _ _ => [⟨.bool, true⟩])
def someB (l : List Int) (m : Int) (k : Nat) : Bool := (List.range k).any fun q => decide (0 < m) && subB (l.getD q 0) m
def anQV (w : List Int) (need : Int) : Ann :=
  [joinAll, loopAt 9 Nat [] (fun st i => St.at (St.only st [0, 1, 6, 8]) [(9, .d I (i : Int))]) (fun _ i => i ≤ (votesL w need).length ∧ votesE w need = 0) (fun i => (votesL w need).length - i),
   loopAt 14 Nat [] (fun st j => St.at (St.only st [0, 1, 6, 8, 9]) [(10, .d I (j : Int))]) (fun st j => (j : Int) ≤ st.i 9 ∧ True) (fun j => (votesL w need).length - j),
   loopAt 24 Nat [] (fun st i => St.at (St.only st [6, 11]) [(13, .d I (i : Int))]) (fun _ i => i ≤ (votesL w (need + 1)).length ∧ votesE w need = 0 ∧ votesE w (need + 1) = 0) (fun i => (votesL w (need + 1)).length - i),
   loopAt 28 Nat [] (fun st j => St.at (St.only st [6, 11, 13]) [(14, .d .bool (someB (votesL w need) ((votesL w (need + 1)).getD (st.i 13).toNat 0) j)), (15, .d I (j : Int))]) (fun _ j => j ≤ (votesL w need).length ∧ True) (fun j => (votesL w need).length - j)]
def anQF (n : Int) (l o : List Int) : Ann :=
  [joinAll, loopAt 12 Nat [] (fun st i => St.at (St.only st [0, 1, 2, 9, 11, 12]) [(13, .d I (i : Int))]) (fun _ i => i ≤ l.length ∧ chkS n l = 0 ∧ isF n l = false) (fun i => l.length - i),
   loopAt 20 Nat [] (fun st i => St.at (St.only st [0, 1, 2]) [(14, .d I (i : Int))]) (fun _ i => i ≤ l.length ∧ chkS n l = 0 ∧ isF n l = true ∧ chkS n o = 0 ∧ ∀ j, j < i → hasB o (l.getD j 0) = true) (fun i => l.length - i),
   loopAt 28 Nat [] (fun st i => St.at (St.only st [0, 1, 2]) [(17, .d I (i : Int))]) (fun _ i => i ≤ o.length ∧ chkS n l = 0 ∧ isF n l = true ∧ chkS n o = 0 ∧ ∀ j, j < l.length → hasB o (l.getD j 0) = true) (fun i => o.length - i)]
def leastL (n : Int) (l : List Int) : List Int := leastU l (2 ^ n.toNat)
def anQL (n : Int) (l : List Int) : Ann :=
  [joinAll, loopAt 10 Nat [] (fun st i => St.at (St.only st [0, 1, 2, 8]) [(10, .d I (i : Int))]) (fun _ i => i ≤ (leastL n l).length ∧ chkS n l = 0) (fun i => (leastL n l).length - i),
   loopAt 13 Nat [] (fun st j => St.at (St.only st [0, 1, 2, 8, 10]) [(11, .d I (j : Int))]) (fun _ j => j ≤ (leastL n l).length ∧ True) (fun j => (leastL n l).length - j)]
end Go.Proofs.YtlopkkoenfngiaaDoor
