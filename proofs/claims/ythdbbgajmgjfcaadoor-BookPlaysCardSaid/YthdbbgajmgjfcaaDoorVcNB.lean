/- VC framework, part NB: a function that makes what it hands back answers by it. -/
import Derived.Test.YthdbbgajmgjfcaaDoorVcNA
namespace Go.Vc
open Go.RowKit

theorem plain_of_own [Dn] {P : Program} {gl : List (Nat × Dat)} {f : FuncId} {ct : OCtr} {c : Ctr} (h : OwnOk P gl f ct)
    (hc : ∀ ds k, c.sem ds k → ct (ds.map fun d => .d d.t d.x) [] fun s ob => ∃ t x b, asV ⟨[s], ob, []⟩ t s = some (x, b) ∧ k [⟨t, x⟩]) : PlainOk P gl f c := by
  intro ds k hs w R0 vals hR0 hG hD
  have I := Inv.begin (ntmps := ds.length) hR0 hG hD (fun _ _ => undef)
  have hB : BaseOk gl w ⟨fun _ => False, fun _ _ => undef, false⟩ R0 := ⟨hG.mono (fun b hb => ⟨hb, fun h => h⟩) (fun _ _ => rfl), hR0, fun b h => h.elim⟩
  have e1 : vals.toArray ++ Array.replicate (ds.length - vals.toArray.size) undef = vals.toArray := by
    have : ds.length - vals.toArray.size = 0 := by simp [hD.1]
    rw [this]; simp
  have I1 : Inv w ⟨fun _ => False, fun _ _ => undef, false⟩ R0 ⟨0, fun _ => undef, fun _ _ => False, fun _ _ => undef, fun _ => False⟩ ⟨ds.map fun d => .d d.t d.x, [], []⟩ ⟨vals.toArray, []⟩ w := by
    have I2 := I
    rw [e1] at I2
    have e2 : start gl ds.length ds = ⟨ds.map fun d => .d d.t d.x, [], glS gl⟩ := by
      unfold start; simp
    rw [e2] at I2
    exact ⟨I2.fr, I2.defers, I2.mks, I2.num, I2.len, fun k sv hk => (by cases hk), I2.tm, I2.ob, I2.dj, I2.fp⟩
  refine Calls.mono (h _ _ _ (hc ds k hs) w _ R0 _ vals.toArray hB rfl I1) ?_
  rintro e w' ⟨v, s, ob', A', rfl, ⟨t, x, b, ha, hk⟩, I', -⟩
  refine ⟨I'.fr, _, v, rfl, hk, ?_⟩
  exact asV_ret I' (fun _ h => h) ha (I'.tm 0 s rfl)
theorem PlainOk.sub' [Dn] {P : Program} {gl gl' : List (Nat × Dat)} {f : FuncId} {c : Ctr} (hs : ∀ x ∈ gl, x ∈ gl') (h : PlainOk P gl f c) : PlainOk P gl' f c :=
  fun ds k hk w R0 vals hR0 hG hD => h ds k hk w R0 vals hR0 (fun g d hg => hG g d (hs _ hg)) hD
/-- What reads no variable of a package needs none. -/
theorem PlainOk.lift [Dn] {P : Program} {gl : List (Nat × Dat)} {f : FuncId} {c : Ctr} (h : PlainOk P [] f c) : PlainOk P gl f c := PlainOk.sub' (fun x hx => by cases hx) h

/-- A nil slice that comes back may be seen as a row without elements. -/
theorem own_nilrow [Dn] {P : Program} {gl : List (Nat × Dat)} {f : FuncId} {oc oc' : OCtr} (h : OwnOk P gl f oc) (e : TypeId) (t : Ty)
    (h' : ∀ args ob k, oc' args ob k → keptN args = 0 ∧ oc args ob (fun s ob' => match s with
      | .nils => k (.os ob'.length) (ob' ++ [.row e t []])
      | s => k s ob')) : OwnOk P gl f oc' := by
  intro args ob k hc w M R0 A vals hB hrd I
  obtain ⟨h0, hc⟩ := h' _ _ _ hc
  refine (h _ _ _ hc w M R0 A vals hB hrd I).mono ?_
  rintro x w' ⟨v, s, ob1, A', rfl, hk, I2, hkeep⟩
  split at hk
  · obtain ⟨A2, I3⟩ := rowNil_ok (l := [(0, e, .d t)]) I2
    exact ⟨v, _, _, A2, rfl, hk, I3, fun i hi => by omega⟩
  · exact ⟨v, _, _, A', rfl, hk, I2, hkeep⟩

/-- An own row that comes back may be seen as another one: the old one is gone. -/
theorem own_mv [Dn] {P : Program} {gl : List (Nat × Dat)} {f : FuncId} {oc oc' : OCtr} (h : OwnOk P gl f oc)
    (h' : ∀ args ob k, oc' args ob k → keptN args ≤ 1 ∧ oc args ob (fun s ob' => (match s, ob' with
      | .os 0, [o] => k (.os 1) [.dead, o]
      | s, ob' => k s ob') ∧ ∀ e l, Ob.st e l ∉ ob')) : OwnOk P gl f oc' := by
  intro args ob k hc w M R0 A vals hB hrd I
  obtain ⟨h0, hc⟩ := h' _ _ _ hc
  refine (h _ _ _ hc w M R0 A vals hB hrd I).mono ?_
  rintro x w' ⟨v, s, ob1, A', rfl, ⟨hk, hns⟩, I2, hkeep⟩
  split at hk
  · rename_i o
    obtain ⟨A2, hA2⟩ : ∃ A2 : Asg, A2 = ⟨2, fun i => if i = 1 then A'.η 0 else A'.η i, fun _ b => A'.F 0 b, fun _ => A'.κ 0, A'.μ⟩ := ⟨_, rfl⟩
    have hn : A'.n = 1 := I2.num
    have hF : ∀ i b, A2.F i b ↔ A'.F 0 b := fun i b => by rw [hA2]
    have hro : ∀ b, Ro R0 w.heap.size A' [o] w' b → Ro R0 w.heap.size A2 [.dead, o] w' b := by
      rintro b ⟨r1, r2, r3⟩
      refine ⟨r1, r2, fun i o' hi hl hf => ?_⟩
      match i, hi with
      | 0, hi => simp at hi; subst hi; cases hl
      | 1, hi => simp at hi; subst hi; exact r3 0 o rfl hl ((hF _ _).1 hf)
    have hro2 : ∀ b, Ro R0 w.heap.size A' [o] w' b → Ro R0 w.heap.size A2 [.dead, o] w' b ∧ Kb w' w' b := fun b hb => ⟨hro b hb, Kb.of_eq rfl⟩
    refine ⟨v, .os 1, [.dead, o], A2, rfl, hk, ?_, fun i hi => ?_⟩
    · refine ⟨I2.fr, ⟨List.nodup_nil, fun d hd => by cases hd⟩, fun D hD => ?_, by rw [hA2]; rfl, rfl, fun k sv hk => (by cases hk), fun j sv hj => ?_, fun i o' hi => ?_, fun i j o1 o2 b hi hj hl hl' _ _ => ?_, fun i o' b hi hl hf => ?_⟩
      · rw [hA2] at hD
        obtain ⟨d1, d2, d3⟩ := I2.mks D hD
        refine ⟨d1, d2, fun i o' hi hl hf => ?_⟩
        match i, hi with
        | 0, hi => simp at hi; subst hi; cases hl
        | 1, hi => simp at hi; subst hi; exact d3 0 o rfl hl ((hF _ _).1 hf)
      · match j, hj with
        | 0, hj =>
          simp at hj; subst hj
          have := I2.tm 0 (.os 0) rfl
          refine ⟨by rw [hA2]; exact Nat.lt_succ_self 1, ?_⟩
          rw [hA2]
          exact this.2
      · match i, hi with
        | 0, hi => simp at hi; subst hi; trivial
        | 1, hi =>
          simp at hi; subst hi
          have ho := I2.ob 0 o rfl
          have hη : A2.η 1 = A'.η 0 := by rw [hA2]; rfl
          have hκ : A2.κ 1 = A'.κ 0 := by rw [hA2]
          cases o with
          | var e t x =>
            obtain ⟨g, cs, e1, hf, hh, hok⟩ := ho
            exact ⟨g, cs, hη.trans e1, (hF _ _).2 hf, hh, ok_mono hro (fun _ _ => rfl) hok⟩
          | row e t xs =>
            obtain ⟨css, hok, hown, hf⟩ := ho
            exact ⟨css, hok.mono fun x u hu => ⟨hu.1, ok_mono hro (fun _ _ => rfl) hu.2⟩, by rw [hη]; exact hown, fun g hg => (hF _ _).2 (hf g (by rw [hη] at hg; exact hg))⟩
          | st e l => exact absurd (List.mem_singleton.2 rfl) (hns e l)
          | trow e u xs =>
            obtain ⟨h1, h2, h3, h4⟩ := ho
            exact ⟨by rw [hκ, hη]; exact h1, by rw [hκ]; exact Ot.nd_keep hro2 (fun _ _ _ _ => Cb.of_eq rfl) h2, by rw [hκ]; exact h3, fun p b hp hb => (hF _ _).2 (h4 p b hp (by rw [hκ] at hb; exact hb))⟩
          | mp n v es =>
            obtain ⟨g, es', clock, e1, hf, hh, hl, hok⟩ := ho
            exact ⟨g, es', clock, hη.trans e1, (hF _ _).2 hf, hh, hl, fun j x e h1 h2 => ⟨(hok j x e h1 h2).1, (hok j x e h1 h2).2.1, okV_mono hro (fun _ _ => rfl) (hok j x e h1 h2).2.2⟩⟩
          | buf e l =>
            obtain ⟨hown, hf⟩ := ho
            exact ⟨by rw [hη]; exact hown, fun g hg => (hF _ _).2 (hf g (by rw [hη] at hg; exact hg))⟩
          | dead => trivial
      · match i, j, hi, hj with
        | 0, _, hi, _ => simp at hi; subst hi; cases hl
        | 1, 0, _, hj => simp at hj; subst hj; cases hl'
        | 1, 1, _, _ => rfl
      · match i, hi with
        | 0, hi => simp at hi; subst hi; cases hl
        | 1, hi => simp at hi; subst hi; exact I2.fp 0 o b rfl hl ((hF _ _).1 hf)
    · have : i = 0 := by omega
      subst this
      rw [hA2]
      exact hkeep 0 hi
  · exact ⟨v, _, _, A', rfl, hk, I2, hkeep⟩
end Go.Vc
