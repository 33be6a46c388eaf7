/- VC framework, part NB: a function that makes what it hands back answers by it. -/
import Derived.Test.YtjgdpblaghhfhaaDoorVcNA
namespace Go.Vc
open Go.RowKit

theorem plain_of_own [Dn] {P : Program} {gl : List (Nat × Dat)} {f : FuncId} {ct : OCtr} {c : Ctr} (h : OwnOk P gl f ct)
    (hc : ∀ ds k, c.sem ds k → ct (ds.map fun d => .d d.t d.x) [] fun s ob => ∃ t x b, asV ⟨[s], ob, []⟩ t s = some (x, b) ∧ k [⟨t, x⟩]) : PlainOk P gl f c := by
  intro ds k hs w R0 vals hR0 hG hD
  have I := Inv.begin (ntmps := ds.length) hR0 hG hD (fun _ _ => undef)
  have hB : BaseOk gl w ⟨fun _ => False, fun _ _ => undef, false⟩ R0 := ⟨hG.mono (fun b hb => ⟨hb, fun h => h⟩) (fun _ _ => rfl), hR0, fun b h => h.elim⟩
  have e1 : vals.toArray ++ Array.replicate (ds.length - vals.toArray.size) undef = vals.toArray := by
    have : ds.length - vals.toArray.size = 0 := by simp [hD.1]
    rw [this]; simp
  have I1 : Inv w ⟨fun _ => False, fun _ _ => undef, false⟩ R0 ⟨0, fun _ => undef, fun _ _ => False, fun _ _ => undef, fun _ => False⟩ ⟨ds.map fun d => .d d.t d.x, [], []⟩ ⟨vals.toArray, []⟩ w := by
    have I2 := I
    rw [e1] at I2
    have e2 : start gl ds.length ds = ⟨ds.map fun d => .d d.t d.x, [], glS gl⟩ := by
      unfold start; simp
    rw [e2] at I2
    exact ⟨I2.fr, I2.defers, I2.mks, I2.num, I2.len, fun k sv hk => (by cases hk), I2.tm, I2.ob, I2.dj, I2.fp⟩
  refine Calls.mono (h _ _ _ (hc ds k hs) w _ R0 _ vals.toArray hB rfl I1) ?_
  rintro e w' ⟨v, s, ob', A', rfl, ⟨t, x, b, ha, hk⟩, I', -⟩
  refine ⟨I'.fr, _, v, rfl, hk, ?_⟩
  exact asV_ret I' (fun _ h => h) ha (I'.tm 0 s rfl)
theorem PlainOk.sub' [Dn] {P : Program} {gl gl' : List (Nat × Dat)} {f : FuncId} {c : Ctr} (hs : ∀ x ∈ gl, x ∈ gl') (h : PlainOk P gl f c) : PlainOk P gl' f c :=
  fun ds k hk w R0 vals hR0 hG hD => h ds k hk w R0 vals hR0 (fun g d hg => hG g d (hs _ hg)) hD
/-- What reads no variable of a package needs none. -/
theorem PlainOk.lift [Dn] {P : Program} {gl : List (Nat × Dat)} {f : FuncId} {c : Ctr} (h : PlainOk P [] f c) : PlainOk P gl f c := PlainOk.sub' (fun x hx => by cases hx) h

/-- A nil slice that comes back may be seen as a row without elements. -/
theorem own_nilrow [Dn] {P : Program} {gl : List (Nat × Dat)} {f : FuncId} {oc oc' : OCtr} (h : OwnOk P gl f oc) (e : TypeId) (t : Ty)
    (h' : ∀ args ob k, oc' args ob k → keptN args = 0 ∧ oc args ob (fun s ob' => match s with
      | .nils => k (.os ob'.length) (ob' ++ [.row e t []])
      | s => k s ob')) : OwnOk P gl f oc' := by
  intro args ob k hc w M R0 A vals hB hrd I
  obtain ⟨h0, hc⟩ := h' _ _ _ hc
  refine (h _ _ _ hc w M R0 A vals hB hrd I).mono ?_
  rintro x w' ⟨v, s, ob1, A', rfl, hk, I2, hkeep⟩
  split at hk
  · obtain ⟨A2, I3⟩ := rowNil_ok (l := [(0, e, .d t)]) I2
    exact ⟨v, _, _, A2, rfl, hk, I3, fun i hi => by omega⟩
  · exact ⟨v, _, _, A', rfl, hk, I2, hkeep⟩

/-- How many objects there are up to the last that lives. -/
def liveN : List Ob → Nat
  | [] => 0
  | o :: r => match liveN r with
    | 0 => match o with
      | .dead => 0
      | _ => 1
    | n + 1 => n + 2
/-- What was taken out is laid back ahead of such a call. -/
def clsC (oc : OCtr) : OCtr := fun args ob k => clsA ob.length ⟨args, ob, []⟩ [] fun st' _ =>
  match decide (keptN args ≤ liveN st'.ob) && decide (keptN (st'.re (List.range (liveN st'.ob))).tm = keptN args) with
  | true => oc (st'.re (List.range (liveN st'.ob))).tm (st'.re (List.range (liveN st'.ob))).ob k
  | false => False
theorem own_cls [Dn] {P : Program} {gl : List (Nat × Dat)} {f : FuncId} {oc : OCtr} (h : OwnOk P gl f oc) : OwnOk P gl f (clsC oc) := by
  intro args ob k hc w M R0 A vals hB hrd I
  obtain ⟨A', st', g, hk, I', _, hη⟩ := clsA_ok I hc
  split at hk
  rotate_left
  · exact hk.elim
  rename_i hb
  simp only [Bool.and_eq_true, decide_eq_true_eq] at hb
  obtain ⟨hkl, hkn⟩ := hb
  have I2 := I'.re (σ := List.range (liveN st'.ob)) List.nodup_range
  generalize hst : st'.re (List.range (liveN st'.ob)) = st2 at hk I2 hkn
  have I3 : Inv w M R0 (A'.re (List.range (liveN st'.ob))) ⟨st2.tm, st2.ob, []⟩ ⟨vals, []⟩ w := ⟨I2.fr, I2.defers, I2.mks, I2.num, I2.len, fun k sv hk => (by cases hk), I2.tm, I2.ob, I2.dj, I2.fp⟩
  refine (h _ _ _ hk w M R0 _ vals hB hrd I3).mono ?_
  rintro x w' ⟨v, s, ob1, A2, rfl, h1, I4, hkeep⟩
  refine ⟨v, s, ob1, A2, rfl, h1, I4, fun i hi => ?_⟩
  rw [hkeep i (by rw [hkn]; exact hi)]
  show A'.η ((List.range (liveN st'.ob)).getD i 0) = A.η i
  have hil : i < liveN st'.ob := Nat.lt_of_lt_of_le hi hkl
  rw [List.getD_eq_getElem?_getD, List.getElem?_range hil, hη]
  rfl
/-- A nil slice that comes back may be seen as a row without elements, whatever was handed in; the objects are named anew. -/
theorem own_nilrowS [Dn] {P : Program} {gl : List (Nat × Dat)} {f : FuncId} {oc oc' : OCtr} (h : OwnOk P gl f oc) (e : TypeId) (t : Ty)
    (h' : ∀ args ob k, oc' args ob k → ∃ σ : List Nat, σ.Nodup ∧ (∀ i, i < keptN args → σ.getD i 0 = i) ∧ oc args ob (fun s ob' => match s with
      | .nils => keptN args ≤ ob'.length ∧ k (reS σ (.os ob'.length)) (σ.map fun i => reO σ ((ob' ++ [Ob.row e t []]).getD i .dead))
      | s => k s ob')) : OwnOk P gl f oc' := by
  intro args ob k hc w M R0 A vals hB hrd I
  obtain ⟨σ, hσ, hs, hc⟩ := h' _ _ _ hc
  refine (h _ _ _ hc w M R0 A vals hB hrd I).mono ?_
  rintro x w' ⟨v, s, ob1, A', rfl, hk, I2, hkeep⟩
  split at hk
  · obtain ⟨hkn, hk⟩ := hk
    have hv : v = .slice none 0 0 := I2.tm 0 .nils rfl
    subst hv
    have hnum : A'.n = ob1.length := I2.num
    have hI := (I2.add none (fun _ => .slice none 0 0) (fun b => (Value.slice none 0 0).ownBlock = some b) (nilOb e (.d t)) (Same.refl w') (fun _ _ _ => rfl) (fun b hb => by simp [Value.ownBlock] at hb) (fun hro =>
          nilOb_ok e (.d t) (Asg.push_η ..) (Asg.push_κ ..))).put (d := some 0) (s := .os ob1.length) (v := .slice none 0 0) ⟨by simp [Asg.pushT, hnum], by rw [← hnum, Asg.push_η]⟩
    refine ⟨.slice none 0 0, _, _, _, rfl, hk, hI.re hσ, fun i hi => ?_⟩
    rw [← hkeep i hi]
    simp only [Asg.re]
    rw [hs i hi]
    simp only [Asg.pushT]
    rw [if_neg (by omega)]
  · exact ⟨v, _, _, A', rfl, hk, I2, hkeep⟩
end Go.Vc
