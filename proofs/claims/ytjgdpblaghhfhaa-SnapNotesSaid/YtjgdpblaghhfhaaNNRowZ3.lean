/- Own texts, merged: NL2. -/
import Derived.Test.YtjgdpblaghhfhaaNNRowZ2
/- Banks: what is noted could have been: the law SnapNotes. -/
namespace Go.Proofs.Ytjgdpblaghhfhaa.N
open Go.Vc
section
variable {n : Nat} {b : Bk} {T : Int}
theorem Gd.noB (g : Gd n b T) (h : allF b = true) : ∀ i, i < n → 0 ≤ b.no.getD i 0 ∧ b.no.getD i 0 ≤ T := fun i hi => by
  obtain ⟨h1, h2⟩ := g.all.1 h
  have hc := g.g.cut
  rw [sumTo_congr (g := fun i => b.no.getD i 0) fun i hi => by rw [if_pos (h1 i hi)]] at hc
  have h3 := le_sumTo (n := n) (f := fun i => b.no.getD i 0) h1 i hi
  have h4 := sum2_nonneg (n := n) (f := fun i j => at2 b.ca i j + rst (b.no.getD j 0) (at2b b.he i j) (at3 b.wa j i)) fun i j hi hj => by
    have := g.g.ca0 i j hi hj
    have := rst_nonneg (b.no.getD j 0) (at2b b.he i j) (at3 b.wa j i)
    omega
  have := h1 i hi
  omega
theorem Gd.rowB (g : Gd n b T) (hT : T ≤ 5000) {p q : Nat} (hp : p < n) (hq : q ≤ n) : 0 ≤ rowC b p q ∧ rowC b p q ≤ 5000000000 := by
  have hB := g.bks (by omega)
  have n5 := g.n5
  have := sumTo_le (n := q) (f := fun j => at2 b.ca p j) (c := 1000000000) fun j hj => ⟨g.g.ca0 p j hp (by omega), (hB.cb p j (by rw [g.mo]; exact hp) (by rw [g.mo]; omega)).2⟩
  unfold rowC
  omega
theorem Gd.cutB (g : Gd n b T) (hT : T ≤ 5000) (h : allF b = true) {p : Nat} (hp : p ≤ n) : 0 ≤ N.cutS b p ∧ N.cutS b p ≤ 50000000000 := by
  have n5 := g.n5
  have := sumTo_le (n := p) (f := fun i => b.no.getD i 0 + rowC b i b.mo.length) (c := 6000000000) fun i hi => by
    have h1 := g.noB h i (by omega)
    have h2 := g.rowB hT (p := i) (q := n) (by omega) (Nat.le_refl n)
    rw [g.mo]
    omega
  unfold N.cutS
  omega
end
def cNotes : Ctr := cdet [.sl I, .sl tMove] (fun _ _ => True) (fun _ _ => [⟨.bool, true⟩])
theorem not_dec {p : Prop} [Decidable p] (h : p) (h2 : (!decide p) = true) : False := by
  rw [decide_eq_true h] at h2; exact absurd h2 (by decide)
theorem okNotes : PlainOk Try.prog glK 8 cNotes := by
  refine plain_of (CxOk.mk' Et_ok rfl mixed (gl := glK) (GOk.cons okFact Try.func20 rfl rfl (GOk.cons okSum Try.func22 rfl rfl GOk.nil)) (GoOk.cons okNew Try.func21 rfl rfl (GoOk.cons okDo Try.func23 rfl rfl (GoOk.cons okNoted Try.func25 rfl rfl GoOk.nil))) noIt) Try.func8 (c := Try.f8.body.getD .skip) (rvs := [(.tmp 4, .bool)]) (by kernel_rfl) (by kernel_rfl) (by kernel_rfl) ?_
  intro ds k ⟨hp, hk⟩ hwf
  obtain ⟨mo, mv, rfl, -, -⟩ := dest2 hp
  have hk : k [⟨.bool, true⟩] := hk
  refine ⟨anNotes mo mv, ?_⟩
  rw [vcNotes]
  clear hp hwf
  refine ⟨trivial, fun h => absurd h (by decide), fun _ => ⟨fun he => ⟨fun _ => hk, fun _ => ?_⟩, fun he => ⟨fun _ => hk, fun h => absurd h (by simp [he])⟩⟩⟩
  obtain ⟨n1, n5, nv⟩ := newE_zero he
  have hT := sumL_T he
  have w0 : -1 = wasF (bAt mo mv 0) := by
    have : allF (newB mo) = false := by
      cases h : allF (newB mo)
      · rfl
      · have := (Gd.new he).noB h 0 (by omega)
        have e : (newB mo).no.getD 0 0 = -1 := getD_rep _ _ _ _ (by omega)
        omega
    show -1 = wasF (newB mo)
    unfold wasF
    rw [this]
    rfl
  refine ⟨⟨by omega, fun v hv => by have := nv v hv; omega⟩, ⟨0, ⟨⟨Nat.zero_le _, Nat.zero_le _⟩, he⟩, ⟨rfl, rfl, trivial, rfl, w0, rfl, trivial⟩, ⟨⟨trivial, trivial, trivial, trivial, trivial, rfl, trivial⟩, ⟨rfl, rfl⟩, rfl, ⟨rfl, rfl⟩, rfl, rfl, trivial⟩, trivial⟩, fun x hx => ⟨fun h1 => ⟨fun h2 => ?_, fun _ => hk⟩, fun _ => hk⟩⟩
  dsimp only [Int.toNat_natCast]
  have h1 : (x : Int) < (mv.length : Int) := of_decide_eq_true h1
  have h2 : (x : Int) < (100 : Int) := of_decide_eq_true h2
  have hs := bAt_succ mo mv (i := x) (by omega)
  have g := Gd.at he mv x
  have g' := Gd.at he mv (x + 1)
  have hS : BkS (stepB (bAt mo mv x) (mv.getD x (0, 0, 0, 0, ()))) := by rw [hs]; exact g'.bks (by omega)
  have mono : allF (bAt mo mv x) = true → allF (bAt mo mv (x + 1)) = true ∧ (bAt mo mv (x + 1)).no.getD 0 0 = (bAt mo mv x).no.getD 0 0 := fun h => by
    rw [← hs]; exact g.allStep _ h
  refine ⟨by omega, h1, g.bks (by omega), hS, fun hf => ?_, fun ht => ?_⟩
  · have hB : allF (bAt mo mv (x + 1)) = false := by rw [← hs]; exact hf
    have hA : allF (bAt mo mv x) = false := by
      cases h : allF (bAt mo mv x)
      · rfl
      · rw [(mono h).1] at hB; exact absurd hB (by decide)
    have wA : wasF (bAt mo mv x) = -1 := by unfold wasF; rw [hA]; rfl
    have wB : wasF (bAt mo mv (x + 1)) = -1 := by unfold wasF; rw [hB]; rfl
    refine ⟨fun _ => ⟨fun h => ?_, fun _ => ⟨inK_i64.2 (by omega), x + 1, ⟨⟨by omega, by omega⟩, he⟩, by omega, ⟨rfl, rfl, trivial, rfl, wA.trans wB.symm, rfl, trivial⟩, ⟨⟨trivial, trivial, trivial, trivial, trivial, congrArg Bk.bg hs, trivial⟩, ⟨rfl, congrArg Bk.mo hs⟩, congrArg Bk.wa hs, ⟨rfl, congrArg Bk.no hs⟩, congrArg Bk.he hs, congrArg Bk.ca hs, trivial⟩, trivial⟩⟩, fun h => absurd h (by decide)⟩
    have h := of_decide_eq_true h
    rw [wA] at h
    exact absurd h (by decide)
  · have hB : allF (bAt mo mv (x + 1)) = true := by rw [← hs]; exact ht
    have wB : (bAt mo mv (x + 1)).no.getD 0 0 = wasF (bAt mo mv (x + 1)) := by unfold wasF; rw [if_pos hB]
    have hno := g'.noB hB
    have hcut := g'.cutS hB
    have hnl := g'.no
    have hcl : (bAt mo mv (x + 1)).ca.length = mo.length := g'.ca.1
    have hml := g'.mo
    refine ⟨fun h => absurd h (by decide), fun _ => ⟨⟨0, ⟨Nat.zero_le _, trivial⟩, ⟨rfl, rfl, trivial, rfl, rfl, rfl, trivial, trivial, rfl, rfl, trivial⟩, ⟨⟨trivial, trivial, trivial, trivial, trivial, congrArg Bk.bg hs, trivial⟩, ⟨rfl, congrArg Bk.mo hs⟩, congrArg Bk.wa hs, ⟨rfl, congrArg Bk.no hs⟩, congrArg Bk.he hs, congrArg Bk.ca hs, ⟨rfl, congrArg Bk.no hs⟩, congrArg Bk.ca hs, trivial⟩, trivial⟩, fun p ⟨hp, _⟩ => ⟨fun h19 => ?_, fun h19 => ?_⟩⟩⟩
    · have h19 := of_decide_eq_true h19
      have hp' : p < mo.length := by omega
      have hnp := hno p hp'
      have hrl : ((bAt mo mv (x + 1)).ca.getD p []).length = mo.length := g'.ca.2 p hp'
      have cB := g'.cutB hT hB hp
      have a1 : (0 : Int) ≤ (p : Int) := by omega
      have a2 : (p : Int) < ((bAt mo mv (x + 1)).ca.length : Int) := by omega
      have a3 : p < (bAt mo mv (x + 1)).ca.length := by omega
      refine ⟨by omega, h19, fun h => absurd (of_decide_eq_true h) (by omega), fun _ => ⟨fun h => absurd (of_decide_eq_true h) (by omega), fun _ => ⟨by omega, h19, inK_i64.2 (by omega), ⟨0, ⟨Nat.zero_le _, trivial⟩, ⟨rfl, rfl, trivial, rfl, rfl, rfl, trivial, trivial, (Int.add_zero _).symm, rfl, rfl, trivial⟩, ⟨⟨trivial, trivial, trivial, trivial, trivial, rfl, trivial⟩, ⟨rfl, rfl⟩, rfl, ⟨rfl, rfl⟩, rfl, rfl, ⟨rfl, rfl⟩, rfl, trivial⟩, trivial⟩, fun q ⟨hq, _⟩ => ⟨a1, a2, a3, a3, fun h25 => ?_, fun h25 => ?_⟩⟩⟩⟩
      · have h25 := of_decide_eq_true h25
        have hq' : q < mo.length := by omega
        have hc0 : 0 ≤ ((bAt mo mv (x + 1)).ca.getD p []).getD q 0 := g'.g.ca0 p q hp' hq'
        have hc1 : ((bAt mo mv (x + 1)).ca.getD p []).getD q 0 ≤ 1000000000 := ((g'.bks (by omega)).cb p q (by omega) (by omega)).2
        have rB := g'.rowB hT hp' hq
        have q0 : (0 : Int) ≤ (q : Int) := by omega
        have q1 := h25
        have q2 : q < ((bAt mo mv (x + 1)).ca.getD p []).length := by omega
        refine ⟨a1, a2, a3, a3, q0, q1, a3, q2, fun h => absurd (of_decide_eq_true h) (by omega), fun _ => ⟨fun heq => ⟨a1, a2, a3, a3, q0, q1, a3, q2, fun h => ?_, fun _ => ⟨a1, a2, a3, a3, q0, q1, a3, q2, inK_i64.2 (by omega), inK_i64.2 (by omega), q + 1, ⟨by omega, trivial⟩, by omega, ⟨rfl, rfl, trivial, rfl, rfl, rfl, trivial, trivial, by show _ = cutS (bAt mo mv (x + 1)) p + (bAt mo mv (x + 1)).no.getD p 0 + (rowC (bAt mo mv (x + 1)) p q + at2 (bAt mo mv (x + 1)).ca p q); show cutS (bAt mo mv (x + 1)) p + (bAt mo mv (x + 1)).no.getD p 0 + rowC (bAt mo mv (x + 1)) p q + at2 (bAt mo mv (x + 1)).ca p q = _; omega, rfl, rfl, trivial⟩, ⟨⟨trivial, trivial, trivial, trivial, trivial, rfl, trivial⟩, ⟨rfl, rfl⟩, rfl, ⟨rfl, rfl⟩, rfl, rfl, ⟨rfl, rfl⟩, rfl, trivial⟩, trivial⟩⟩, fun _ => ⟨a1, a2, a3, a3, q0, q1, a3, q2, inK_i64.2 (by omega), inK_i64.2 (by omega), q + 1, ⟨by omega, trivial⟩, by omega, ⟨rfl, rfl, trivial, rfl, rfl, rfl, trivial, trivial, by show _ = cutS (bAt mo mv (x + 1)) p + (bAt mo mv (x + 1)).no.getD p 0 + (rowC (bAt mo mv (x + 1)) p q + at2 (bAt mo mv (x + 1)).ca p q); show cutS (bAt mo mv (x + 1)) p + (bAt mo mv (x + 1)).no.getD p 0 + rowC (bAt mo mv (x + 1)) p q + at2 (bAt mo mv (x + 1)).ca p q = _; omega, rfl, rfl, trivial⟩, ⟨⟨trivial, trivial, trivial, trivial, trivial, rfl, trivial⟩, ⟨rfl, rfl⟩, rfl, ⟨rfl, rfl⟩, rfl, rfl, ⟨rfl, rfl⟩, rfl, trivial⟩, trivial⟩⟩⟩
        have heq := of_decide_eq_true heq
        exact (not_dec (g'.g.cz p q hp' hq' (.inr (by omega))) h).elim
      · have h25 := of_decide_eq_false h25
        have e : q = mo.length := by omega
        subst e
        refine ⟨inK_i64.2 (by omega), p + 1, ⟨by omega, trivial⟩, by omega, ⟨rfl, rfl, trivial, rfl, rfl, rfl, trivial, trivial, ?_, rfl, trivial⟩, ⟨⟨trivial, trivial, trivial, trivial, trivial, rfl, trivial⟩, ⟨rfl, rfl⟩, rfl, ⟨rfl, rfl⟩, rfl, rfl, ⟨rfl, rfl⟩, rfl, trivial⟩, trivial⟩
        show N.cutS (bAt mo mv (x + 1)) p + (bAt mo mv (x + 1)).no.getD p 0 + rowC (bAt mo mv (x + 1)) p mo.length = N.cutS (bAt mo mv (x + 1)) p + ((bAt mo mv (x + 1)).no.getD p 0 + rowC (bAt mo mv (x + 1)) p (bAt mo mv (x + 1)).mo.length)
        rw [hml]
        omega
    · have h19 := of_decide_eq_false h19
      have e : p = mo.length := by omega
      subst e
      have hw1 := wB
      refine ⟨fun h => (not_dec (by omega) h).elim, fun _ => ⟨fun h => (not_dec hcut h).elim, fun _ => ⟨fun hw => ⟨Int.le_refl 0, by omega, fun h => ?_, fun _ => ⟨Int.le_refl 0, by omega, inK_i64.2 (by omega), x + 1, ⟨⟨by omega, by omega⟩, he⟩, by omega, ⟨rfl, rfl, trivial, rfl, hw1, rfl, trivial⟩, ⟨⟨trivial, trivial, trivial, trivial, trivial, rfl, trivial⟩, ⟨rfl, rfl⟩, rfl, ⟨rfl, rfl⟩, rfl, rfl, trivial⟩, trivial⟩⟩, fun _ => ⟨Int.le_refl 0, by omega, inK_i64.2 (by omega), x + 1, ⟨⟨by omega, by omega⟩, he⟩, by omega, ⟨rfl, rfl, trivial, rfl, hw1, rfl, trivial⟩, ⟨⟨trivial, trivial, trivial, trivial, trivial, rfl, trivial⟩, ⟨rfl, rfl⟩, rfl, ⟨rfl, rfl⟩, rfl, rfl, trivial⟩, trivial⟩⟩⟩⟩
      have hw := of_decide_eq_true hw
      have hA : allF (bAt mo mv x) = true := by
        cases h : allF (bAt mo mv x)
        · have wA : wasF (bAt mo mv x) = -1 := by unfold wasF; rw [h]; rfl
          omega
        · rfl
      have wA : wasF (bAt mo mv x) = (bAt mo mv x).no.getD 0 0 := by unfold wasF; rw [if_pos hA]
      exact (not_dec ((mono hA).2.trans wA.symm) h).elim
end Go.Proofs.Ytjgdpblaghhfhaa.N
