/- Own texts, merged: GLaw, Gl, GSay. -/
import Derived.Test.YtlopkkoenfngiaaDoorGSRowZ2
import Derived.Test.YtlopkkoenfngiaaDoorVcPA
/- Generals: the laws hold. -/
namespace Go.Proofs.YtlopkkoenfngiaaDoor
open Go.Vc
theorem lt128 {n liars : Int} (hn : n ≤ 7) (h : 0 ≤ liars ∧ liars < 2 ^ n.toNat) : liars.toNat < 128 ∧ liars < 128 := by
  have h1 : 2 ^ n.toNat ≤ 2 ^ 7 := Nat.pow_le_pow_right (by decide) (by omega)
  have h2 := h.2
  rw [powC] at h2
  omega
theorem rest0_bit (n : Int) (i : Nat) : (restN n [0]).testBit i = (decide (i < n.toNat) && !decide (i = 0)) := by
  rw [restN_bit]
  congr 1
  have h := onN_bit [0] i
  by_cases hi : i = 0
  · subst hi
    rw [h.2 ⟨0, .head _, rfl⟩]; rfl
  · cases hb : (onN [0]).testBit i with
    | false => simp [hi]
    | true =>
      obtain ⟨y, hy, e⟩ := h.1 hb
      rw [List.mem_singleton.1 hy] at e
      exact absurd e.symm hi
theorem rest0_in {n : Int} {i : Nat} (h1 : 1 ≤ i) (h : (i : Int) < n) : (restN n [0]).testBit i = true := by
  rw [rest0_bit, decide_eq_true (show i < n.toNat by omega), decide_eq_false (show ¬ i = 0 by omega)]; rfl
theorem rest0_pop {n : Int} (hn : 1 ≤ n ∧ n ≤ 7) : (popN (restN n [0]) : Int) = n - 1 := by
  have key : ∀ m : Fin 8, popN (restN ((m.val : Nat) : Int) [0]) = m.val - 1 := by decide +kernel
  have := key ⟨n.toNat, by omega⟩
  rw [show ((n.toNat : Nat) : Int) = n by omega] at this
  rw [this]
  show ((n.toNat - 1 : Nat) : Int) = n - 1
  omega
theorem top_t {n liars : Int} {lies : List Int} (hn : 1 ≤ n ∧ n ≤ 7) (h : 0 ≤ liars ∧ liars < 2 ^ n.toNat) : tR (arOf n liars lies) (restN n [0]) + (if bitB liars 0 = true then 1 else 0) = popN liars.toNat := by
  obtain ⟨h1, h2⟩ := lt128 hn.2 h
  have hb : ∀ j : Nat, bitB liars (j : Int) = liars.toNat.testBit j := fun j => by
    unfold bitB; rw [decide_eq_true h.1]; simp
  rw [pop_sum h1, S_split (j := 0) 64 (by decide)]
  have e0 : (if liars.toNat.testBit 0 = true then (1 : Int) else 0) = if bitB liars 0 = true then 1 else 0 := by
    have := hb 0
    rw [show ((0 : Nat) : Int) = 0 from rfl] at this
    rw [this]
  rw [e0]
  congr 1
  refine S_congr 64 fun j _ => ?_
  show (if (restN n [0]).testBit j = true ∧ bitB liars (j : Int) = true then (1 : Int) else 0) = _
  rw [hb, rest0_bit]
  by_cases hj : j = 0
  · subst hj; simp
  · rw [if_neg hj]
    by_cases hb' : liars.toNat.testBit j = true
    · have hlt : j < n.toNat := by
        rcases Nat.lt_or_ge j n.toNat with h' | h'
        · exact h'
        · have h3 := h.2
          rw [powC] at h3
          rw [Nat.testBit_lt_two_pow (Nat.lt_of_lt_of_le (show liars.toNat < 2 ^ n.toNat by omega) (Nat.pow_le_pow_right (by decide) h'))] at hb'; cases hb'
      simp [hj, hb', hlt]
    · simp [hb']

section
variable {n deep liars order : Int} {lies : List Int}
theorem dec_len (h : gErr n deep liars order lies = 0) : (decF n deep liars order lies).length = n.toNat := by
  unfold decF; rw [if_pos h, List.length_set, ask_len]; rfl
theorem dec_zero (h : gErr n deep liars order lies = 0) : (decF n deep liars order lies).getD 0 0 = order := by
  have := (ge_of h).hn
  unfold decF; rw [if_pos h, getD_set, if_pos rfl, ask_len, if_pos]
  show 0 < n.toNat
  omega
theorem dec_at (h : gErr n deep liars order lies = 0) {i : Nat} (hi : 1 ≤ i) : (decF n deep liars order lies).getD i 0 = (askF (arOf n liars lies) deep.toNat [0] order).getD i 0 := by
  unfold decF; rw [if_pos h, getD_set, if_neg (by omega)]
theorem dec_bd (h : gErr n deep liars order lies = 0) {i : Nat} (hi : 1 ≤ i) : 0 ≤ (decF n deep liars order lies).getD i 0 := by
  rw [dec_at h hi]
  exact (ask_bd (ge_of h).ar _ _ (ge_of h).ho i).1
theorem top_agree (h : gErr n deep liars order lies = 0) (hm : (popN liars.toNat : Int) ≤ deep) (h3 : 3 * deep < n) {i j : Nat} (hi : 1 ≤ i ∧ (i : Int) < n) (hj : 1 ≤ j ∧ (j : Int) < n)
    (hli : bitB liars (i : Int) = false) (hlj : bitB liars (j : Int) = false) : (decF n deep liars order lies).getD i 0 = (decF n deep liars order lies).getD j 0 := by
  have g := ge_of h
  have hd := g.hd
  have hn := g.hn
  have ht := top_t (lies := lies) g.hn g.hl
  have hp := rest0_pop g.hn
  rw [dec_at h hi.1, dec_at h hj.1]
  refine agree g.ar deep.toNat [0] order g.ho ?_ ?_ i j (rest0_in hi.1 hi.2) (rest0_in hj.1 hj.2) ?_ ?_
  · show tR (arOf n liars lies) (restN n [0]) + (if bitB liars 0 = true then 1 else 0) ≤ _
    rw [ht]; omega
  · show 3 * ((deep.toNat : Nat) : Int) ≤ popN (restN n [0])
    rw [hp]; omega
  · exact fun e => by have e : bitB liars (i : Int) = true := e; rw [hli] at e; cases e
  · exact fun e => by have e : bitB liars (j : Int) = true := e; rw [hlj] at e; cases e
theorem top_obey (h : gErr n deep liars order lies = 0) (hz : bitB liars 0 = false) (hm : popN liars.toNat = 0 ∨ 2 * (popN liars.toNat : Int) + deep < n) {i : Nat} (hi : 1 ≤ i ∧ (i : Int) < n)
    (hli : bitB liars (i : Int) = false) : (decF n deep liars order lies).getD i 0 = order := by
  have g := ge_of h
  have hd := g.hd
  have hn := g.hn
  have ht := top_t (lies := lies) g.hn g.hl
  have hp := rest0_pop g.hn
  rw [dec_at h hi.1]
  rw [if_neg (by rw [hz]; decide)] at ht
  refine valid g.ar deep.toNat [0] order g.ho ?_ ?_ i (rest0_in hi.1 hi.2) ?_
  · show ¬ bitB liars 0 = true
    rw [hz]; decide
  · show tR (arOf n liars lies) (restN n [0]) = 0 ∨ 2 * tR (arOf n liars lies) (restN n [0]) + ((deep.toNat : Nat) : Int) ≤ popN (restN n [0])
    rw [hp]
    rcases hm with hm | hm
    · left; omega
    · right; omega
  · exact fun e => by have e : bitB liars (i : Int) = true := e; rw [hli] at e; cases e
theorem top_honest (h : gErr n deep 0 order lies = 0) {i : Nat} (hi : (i : Int) < n) : (decF n deep 0 order lies).getD i 0 = order := by
  rcases Nat.eq_zero_or_pos i with rfl | h1
  · exact dec_zero h
  · refine top_obey h rfl (.inl (by decide)) ⟨h1, hi⟩ ?_
    unfold bitB; simp
end

theorem gfact_vc (k : List Dat → Prop) (hk : k [⟨.bool, true⟩]) : vcF ⟨En, [(34, cDecide)], glT, [], []⟩ [joinAll] (Tryd.f33.body.getD .skip) Tryd.f33.ntmps [(.tmp 0, .bool)] [] k := by
  rw [vcGFact]
  have e : decide ((decF 4 1 8 1 ((List.replicate 1 (0 : Int)).set 0 0)).getD (Int.toNat 2) 0 = 1) = true := by decide +kernel
  rw [e]
  exact ⟨trivial, trivial, fun _ => ⟨fun _ => ⟨fun _ => ⟨by decide, by decide +kernel, fun _ => ⟨fun _ => ⟨by decide, by decide +kernel, fun _ => ⟨by decide, by decide +kernel, hk⟩, fun h => absurd h (by decide +kernel)⟩, fun h => absurd h (by decide +kernel)⟩, fun h => absurd h (by decide +kernel)⟩, fun h => absurd h (by decide +kernel)⟩, fun h => absurd h (by decide +kernel)⟩, fun h => absurd h (by decide +kernel)⟩
theorem okGFact : PlainOk Tryd.prog glT 33 cGFact := by
  refine plain_of (CxOk.mk' En_ok rfl mixed (gl := glT) (GOk.cons okDecide Tryd.func34 (by kernel_rfl) (by kernel_rfl) GOk.nil) GoOk.nil noIt) Tryd.func33 (c := Tryd.f33.body.getD .skip) (rvs := [(.tmp 0, .bool)]) (by kernel_rfl) (by kernel_rfl) (by kernel_rfl) ?_
  intro ds k ⟨hp, hk⟩ hwf
  obtain ⟨rfl, -⟩ := dest0 hp
  exact ⟨[joinAll], gfact_vc k hk⟩

theorem agree_vc (n deep liars order : Int) (lies : List Int) (k : List Dat → Prop) (hk : k [⟨.bool, true⟩]) :
    vcF ⟨En, [(33, cGFact), (34, cDecide), (23, cManyR), (35, cBit)], glT, [], []⟩ (anAgree n deep liars order lies) (Tryd.f8.body.getD .skip) Tryd.f8.ntmps [(.tmp 10, .bool)] [⟨I, n⟩, ⟨I, deep⟩, ⟨I, liars⟩, ⟨I, order⟩, ⟨.sl I, lies⟩] k := by
  rw [vcAgree]
  simp only [and_true, true_and, Bool.not_true, Bool.not_eq_true', Bool.not_eq_false', decide_eq_true_eq, decide_eq_false_iff_not]
  refine ⟨fun h => absurd h (by decide), fun _ => ⟨fun h => ?_, fun h => ?_⟩⟩
  · have : decF n deep liars order lies = [] := by unfold decF; rw [if_neg h]
    rw [this]; exact hk
  have g := ge_of h
  have hn := g.hn
  have hd := g.hd
  have hl := dec_len h
  have h128 := lt128 hn.2 g.hl
  refine ⟨fun h1 => absurd (by rw [hl]; omega) h1, fun _ => ⟨by omega, fun _ => hk, fun h1 => ⟨inK_i64.2 (by omega), fun _ => hk, fun h2 => ⟨⟨(1, -1), ⟨h, by simp; omega, by omega, by omega, .inl ⟨rfl, fun j hj hj' => by simp at hj'; omega⟩⟩, rfl, rfl⟩, ?_⟩⟩⟩⟩
  rintro ⟨i, f⟩ hi
  obtain ⟨-, hile, hmany, hthree, hfirst⟩ := hi
  simp only at hile hfirst ⊢
  refine ⟨fun hin => ⟨fun hb => ⟨inK_i64.2 (by omega), (i + 1, f), ⟨h, by simp; omega, hmany, hthree, ?_⟩, by simp; omega, rfl, by simp⟩, fun hb => ⟨fun hf => ⟨by omega, by omega, by omega, by omega, fun hx => absurd trivial hx, fun _ => ⟨inK_i64.2 (by omega), (i + 1, _), ⟨h, by simp; omega, hmany, hthree, .inr ⟨i, hile.1, by simp, hb, ?_⟩⟩, by simp; omega, rfl, by simp⟩⟩, fun hf => ⟨by omega, by omega, fun hx => absurd ?_ hx, fun hx => ⟨inK_i64.2 (by omega), (i + 1, f), ⟨h, by simp; omega, hmany, hthree, .inr ⟨i, hile.1, by simp, hb, ?_⟩⟩, by simp; omega, rfl, by simp⟩⟩⟩⟩, fun _ => hk⟩
  · rcases hfirst with ⟨hf, hall⟩ | ⟨j, h1, h2, h3, h4⟩
    · refine .inl ⟨hf, fun j hj hj' => ?_⟩
      by_cases hji : j = i
      · rw [hji]; exact hb
      · exact hall j hj (by simp at hj'; omega)
    · exact .inr ⟨j, h1, by simp; omega, h3, h4⟩
  · rw [Int.toNat_natCast]; rfl
  · rcases hfirst with ⟨hf', -⟩ | ⟨j, h1, h2, h3, h4⟩
    · omega
    · rw [h4, Int.toNat_natCast]
      exact top_agree h hmany hthree ⟨hile.1, hin⟩ ⟨h1, by omega⟩ hb h3
  · rw [Int.toNat_natCast] at hx; exact hx.symm
theorem obey_vc (n deep liars order : Int) (lies : List Int) (k : List Dat → Prop) (hk : k [⟨.bool, true⟩]) :
    vcF ⟨En, [(33, cGFact), (34, cDecide), (23, cManyR), (35, cBit)], glT, [], []⟩ (anObey n deep liars order lies) (Tryd.f9.body.getD .skip) Tryd.f9.ntmps [(.tmp 10, .bool)] [⟨I, n⟩, ⟨I, deep⟩, ⟨I, liars⟩, ⟨I, order⟩, ⟨.sl I, lies⟩] k := by
  rw [vcObey]
  simp only [and_true, true_and, Bool.not_true, Bool.not_eq_true', Bool.not_eq_false', decide_eq_true_eq, decide_eq_false_iff_not]
  refine ⟨fun h => absurd h (by decide), fun _ => ⟨fun h => ?_, fun h => ?_⟩⟩
  · have : decF n deep liars order lies = [] := by unfold decF; rw [if_neg h]
    rw [this]; exact hk
  have g := ge_of h
  have hn := g.hn
  have hd := g.hd
  have hl := dec_len h
  have h128 := lt128 hn.2 g.hl
  have hpop : popN liars.toNat ≤ 8 := by
    have := popN_le ⟨8, by decide⟩ ⟨liars.toNat, by omega⟩ (by show liars.toNat < 2 ^ 8; omega)
    exact this
  refine ⟨fun h1 => absurd (by rw [hl]; omega) h1, fun _ => ⟨by decide, by omega, fun hx => absurd (dec_zero h) hx, fun _ => ⟨fun _ => hk, fun hz => ⟨by omega, inK_i64.2 (by omega), inK_i64.2 (by omega), fun _ => hk, fun h2 => ⟨⟨1, ⟨h, by omega, hz, by omega⟩, rfl⟩, ?_⟩⟩⟩⟩⟩
  intro i hi
  obtain ⟨-, hile, -, hmany⟩ := hi
  refine ⟨fun hin => ⟨fun hb => ⟨by omega, by omega, fun hx => absurd ?_ hx, fun _ => ⟨inK_i64.2 (by omega), i + 1, ⟨h, by omega, hz, hmany⟩, by omega, by omega⟩⟩, fun hb => ⟨inK_i64.2 (by omega), i + 1, ⟨h, by omega, hz, hmany⟩, by omega, by omega⟩⟩, fun _ => hk⟩
  rw [Int.toNat_natCast]
  exact top_obey h hz (.inr hmany) ⟨hile.1, hin⟩ hb
theorem honest_vc (n deep order : Int) (lies : List Int) (k : List Dat → Prop) (hk : k [⟨.bool, true⟩]) :
    vcF ⟨En, [(33, cGFact), (34, cDecide)], glT, [], []⟩ (anHonest n deep order lies) (Tryd.f10.body.getD .skip) Tryd.f10.ntmps [(.tmp 8, .bool)] [⟨I, n⟩, ⟨I, deep⟩, ⟨I, order⟩, ⟨.sl I, lies⟩] k := by
  rw [vcHonest]
  simp only [and_true, true_and, Bool.not_true, Bool.not_eq_true', Bool.not_eq_false', decide_eq_true_eq, decide_eq_false_iff_not]
  refine ⟨fun h => absurd h (by decide), fun _ => ⟨fun h => ?_, fun h => ?_⟩⟩
  · have : decF n deep 0 order lies = [] := by unfold decF; rw [if_neg h]
    rw [this]; exact hk
  have g := ge_of h
  have hn := g.hn
  have hl := dec_len h
  refine ⟨⟨0, ⟨h, by omega⟩, rfl⟩, fun i hi => ⟨fun hin => ⟨by omega, by omega, fun hx => absurd ?_ hx, fun _ => ⟨inK_i64.2 (by omega), i + 1, ⟨h, by omega⟩, by omega, by omega⟩⟩, fun _ => ?_⟩⟩
  · rw [Int.toNat_natCast]
    exact top_honest h (by omega)
  · rw [show (((decF n deep 0 order lies).length : Nat) : Int) = n by omega, decide_eq_true rfl]; exact hk

theorem okAgree : PlainOk Tryd.prog glT 8 cLawG := by
  refine plain_of (CxOk.mk' En_ok rfl mixed (gl := glT) (GOk.cons okGFact Tryd.func33 (by kernel_rfl) (by kernel_rfl) (GOk.cons okDecide Tryd.func34 (by kernel_rfl) (by kernel_rfl) (GOk.cons okManyR Tryd.func23 (by kernel_rfl) (by kernel_rfl) (GOk.cons okBit Tryd.func35 (by kernel_rfl) (by kernel_rfl) GOk.nil)))) GoOk.nil noIt) Tryd.func8 (c := Tryd.f8.body.getD .skip) (rvs := [(.tmp 10, .bool)]) (by kernel_rfl) (by kernel_rfl) (by kernel_rfl) ?_
  intro ds k ⟨hp, hk⟩ hwf
  obtain ⟨n, d, l, o, x, rfl, -⟩ := dest5 hp
  exact ⟨anAgree n d l o x, agree_vc n d l o x k hk⟩
theorem okObey : PlainOk Tryd.prog glT 9 cLawG := by
  refine plain_of (CxOk.mk' En_ok rfl mixed (gl := glT) (GOk.cons okGFact Tryd.func33 (by kernel_rfl) (by kernel_rfl) (GOk.cons okDecide Tryd.func34 (by kernel_rfl) (by kernel_rfl) (GOk.cons okManyR Tryd.func23 (by kernel_rfl) (by kernel_rfl) (GOk.cons okBit Tryd.func35 (by kernel_rfl) (by kernel_rfl) GOk.nil)))) GoOk.nil noIt) Tryd.func9 (c := Tryd.f9.body.getD .skip) (rvs := [(.tmp 10, .bool)]) (by kernel_rfl) (by kernel_rfl) (by kernel_rfl) ?_
  intro ds k ⟨hp, hk⟩ hwf
  obtain ⟨n, d, l, o, x, rfl, -⟩ := dest5 hp
  exact ⟨anObey n d l o x, obey_vc n d l o x k hk⟩
theorem okHonest : PlainOk Tryd.prog glT 10 cLawH := by
  refine plain_of (CxOk.mk' En_ok rfl mixed (gl := glT) (GOk.cons okGFact Tryd.func33 (by kernel_rfl) (by kernel_rfl) (GOk.cons okDecide Tryd.func34 (by kernel_rfl) (by kernel_rfl) GOk.nil)) GoOk.nil noIt) Tryd.func10 (c := Tryd.f10.body.getD .skip) (rvs := [(.tmp 8, .bool)]) (by kernel_rfl) (by kernel_rfl) (by kernel_rfl) ?_
  intro ds k ⟨hp, hk⟩ hwf
  obtain ⟨n, d, o, x, rfl, -⟩ := dest4 hp
  exact ⟨anHonest n d o x, honest_vc n d o x k hk⟩
end Go.Proofs.YtlopkkoenfngiaaDoor

/- The library's table, as the cards list it, lies in its variable. -/
namespace Go.Proofs.YtlopkkoenfngiaaDoor
open Go.Vc
def Eg : Env := { tys := [(94, .ar 64 (.int .u8))], errT := 58, eqs := [], els := [] }
theorem Eg_ok : EnvOk Tryd.prog Eg := EnvOk.of_list (by kernel_rfl) (by kernel_rfl) (by kernel_rfl)
theorem glOk {W : World} (h : laidMetH Tryd.prog Rows.quorumVotesRow.laid W) : GlOk glT W fun b => b < W.heap.size :=
  gl_of_laid Eg_ok (n := "math/bits.deBruijn64tab") (T := 94) (by kernel_rfl) h (.tail _ (.head _)) (by kernel_rfl) (by kernel_rfl) (by kernel_rfl) (by decide)
end Go.Proofs.YtlopkkoenfngiaaDoor

/- Generals: the program says what the reference says. -/
namespace Go.Proofs.YtlopkkoenfngiaaDoor
open Go.Vc
theorem gErr_in (n deep liars order : Int) (lies : List Int) : inK .i64 (gErr n deep liars order lies) := by
  unfold gErr
  refine inK_i64.2 ?_
  repeat' split
  all_goals decide
theorem want_snoc (n deep liars order : Int) (lies : List Int) (k : Nat) : wantL n deep liars order lies (k + 1) = wantL n deep liars order lies k ++ [wantF n deep liars order lies k] := by
  unfold wantL; rw [List.range_succ, List.map_append]; rfl
theorem want_len (n deep liars order : Int) (lies : List Int) (k : Nat) : (wantL n deep liars order lies k).length = k := by
  unfold wantL; simp
theorem want_at {n deep liars order : Int} {lies : List Int} {j k : Nat} (hj : j < k) : (wantL n deep liars order lies k).getD j 0 = wantF n deep liars order lies j := by
  unfold wantL
  rw [List.getD_eq_getElem?_getD, List.getElem?_map, List.getElem?_range hj]; rfl
theorem dec_want {n deep liars order : Int} {lies : List Int} (h : gErr n deep liars order lies = 0) : decF n deep liars order lies = wantL n deep liars order lies n.toNat := by
  have g := ge_of h
  refine List.ext_getElem (by rw [dec_len h, want_len]) fun j h1 h2 => ?_
  rw [← getD_at h1, ← getD_at h2]
  have hj : j < n.toNat := by rw [dec_len h] at h1; exact h1
  rw [want_at hj]
  unfold wantF
  rcases Nat.eq_zero_or_pos j with rfl | h0
  · rw [dec_zero h]; rfl
  · rw [if_neg (by omega), dec_at h h0]
    exact ask_takes g.ar _ _ _ j (fun y hy => by rw [List.mem_singleton.1 hy]; decide) (rest0_in (n := n) h0 (by omega))
theorem say_vc (n deep liars order : Int) (lies : List Int) (k : List Dat → Prop) (hk : k [⟨.bool, true⟩]) :
    vcF ⟨En, [(36, cArmy), (37, cGChk), (25, cError), (38, cTakes 3), (34, cDecide), (29, cInts)], glA, [], []⟩ (anSay n deep liars order lies) (Tryd.f11.body.getD .skip) Tryd.f11.ntmps [(.tmp 10, .bool)] [⟨I, n⟩, ⟨I, deep⟩, ⟨I, liars⟩, ⟨I, order⟩, ⟨.sl I, lies⟩] k := by
  rw [vcGSay]
  have hin := gErr_in n deep liars order lies
  simp only [and_true, true_and, eq_self, set1, List.append_eq]
  have fin : ∀ x : Nat, InSay n deep liars order lies x → (gErr n deep liars order lies = 0 → x = n.toNat) → k [⟨.bool, decF n deep liars order lies == wantL n deep liars order lies x⟩] := fun x hx he => by
    have : decF n deep liars order lies = wantL n deep liars order lies x := by
      by_cases h : gErr n deep liars order lies = 0
      · rw [he h]; exact dec_want h
      · rcases hx.ge with h' | h'
        · exact absurd h' h
        · subst h'
          unfold decF; rw [if_neg h]; rfl
    rw [this, beq_self_eq_true]; exact hk
  have done : ∀ x : Nat, InSay n deep liars order lies x → (gErr n deep liars order lies = 0 → x = n.toNat) →
      (decide True = true → inK .i64 (gErr n deep liars order lies) ∧ (decide True = true → k [⟨.bool, decF n deep liars order lies == wantL n deep liars order lies x⟩]) ∧ (decide True = false → k [⟨.bool, false⟩])) ∧ (decide True = false → k [⟨.bool, false⟩]) := fun x hx he =>
    ⟨fun _ => ⟨hin, fun _ => fin x hx he, fun h => absurd h (by decide)⟩, fun h => absurd h (by decide)⟩
  refine ⟨hin, ⟨0, ⟨by omega, .inr rfl, by omega⟩, rfl, rfl⟩, fun x hx => ⟨fun h1 => ⟨fun h2 => ⟨fun h3 => ?_, fun h3 => ?_⟩, fun h2 => ?_⟩, fun h1 => ?_⟩⟩
  · have h1 := of_decide_eq_true h1
    have h2 := of_decide_eq_true h2
    have h3 := of_decide_eq_true h3
    have g := ge_of h3
    have hn := g.hn
    have hd := g.hd
    have hle := hx.le
    have wl := want_len n deep liars order lies x
    refine ⟨fun h4 => ?_, fun h4 => ?_⟩
    · have h4 := of_decide_eq_true h4
      refine ⟨by rw [wl]; simp; omega, inK_i64.2 (by omega), x + 1, ⟨by omega, .inl h3, by omega⟩, by omega, by omega, ?_⟩
      rw [want_snoc]
      unfold wantF
      rw [if_pos h4]
    · have h4 := of_decide_eq_false h4
      refine ⟨⟨⟨g.ar, ⟨by decide, by decide, fun y hy => ?_⟩, g.ho, hd.1, by omega, ?_⟩, ⟨by omega, h1⟩⟩, by rw [wl]; simp; omega, inK_i64.2 (by omega), x + 1, ⟨by omega, .inl h3, by omega⟩, by omega, by omega, ?_⟩
      · rw [List.mem_singleton.1 hy]
        show (0 : Int) ≤ 0 ∧ 0 < n
        omega
      · show (1 : Int) + deep ≤ 3
        omega
      · rw [want_snoc]
        unfold wantF
        rw [if_neg h4]
  · exact done x hx fun h => absurd h (of_decide_eq_false h3)
  · exact done x hx fun h => by
      have := (ge_of h).hn
      have := of_decide_eq_false h2
      have := hx.le
      omega
  · exact done x hx fun h => by
      have := of_decide_eq_false h1
      have := hx.le
      omega
theorem okGSay : PlainOk Tryd.prog glA 11 cLawG := by
  refine plain_of (CxOk.mk' En_ok rfl mixed (gl := glA) (GOk.cons (liftT okArmy) Tryd.func36 (by kernel_rfl) (by kernel_rfl) (GOk.cons (liftT okGChk) Tryd.func37 (by kernel_rfl) (by kernel_rfl) (GOk.cons (liftE okError) Tryd.func25 (by kernel_rfl) (by kernel_rfl) (GOk.cons (liftT (okTakes 3)) Tryd.func38 (by kernel_rfl) (by kernel_rfl) (GOk.cons (liftT okDecide) Tryd.func34 (by kernel_rfl) (by kernel_rfl) (GOk.cons (liftT okInts) Tryd.func29 (by kernel_rfl) (by kernel_rfl) GOk.nil)))))) GoOk.nil noIt) Tryd.func11 (c := Tryd.f11.body.getD .skip) (rvs := [(.tmp 10, .bool)]) (by kernel_rfl) (by kernel_rfl) (by kernel_rfl) ?_
  intro ds k ⟨hp, hk⟩ hwf
  obtain ⟨n, d, l, o, x, rfl, -⟩ := dest5 hp
  exact ⟨anSay n d l o x, say_vc n d l o x k hk⟩
/-- the tables and the handle, as the card lists them -/
theorem glOkA {W : World} (h : laidMetH Tryd.prog Rows.generalSaysRow.laid W) : GlOk glA W fun b => b < W.heap.size :=
  GlOk.append (gl_of_laidM Eg_ok (n := "math/bits.deBruijn64tab") (T := 94) h (.tail _ (.head _)) (by kernel_rfl) (by kernel_rfl) (by kernel_rfl) (by kernel_rfl) (by decide)) (glE_of (.tail _ (.tail _ (.head _))) h)
end Go.Proofs.YtlopkkoenfngiaaDoor
