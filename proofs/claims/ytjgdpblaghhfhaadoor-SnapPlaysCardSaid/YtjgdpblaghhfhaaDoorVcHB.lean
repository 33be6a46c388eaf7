/- VC framework, part HB: an own slice is taken out of the one it hangs from, and laid back. -/
import Derived.Test.YtjgdpblaghhfhaaDoorVcHA
namespace Go.Vc
open Go.RowKit

/-! An own slice, with all that hangs from it. -/

structure TreeOk (w : World) (ro : Nat → Prop) (κ : List Nat → Value) (F : Nat → Prop) {e : TypeId} {u : Ot} (xs : (Ot.sl e u).D) : Prop where
  nd : (Ot.sl e u).nd w ro κ xs
  inj : ∀ p p' b, (Ot.sl e u).vp xs p → (Ot.sl e u).vp xs p' → (κ p).ownBlock = some b → (κ p').ownBlock = some b → p = p'
  F : ∀ p b, (Ot.sl e u).vp xs p → (κ p).ownBlock = some b → F b

theorem vp_d {e : TypeId} {t : Ty} {xs : (Ot.sl e (.d t)).D} {p : List Nat} (h : (Ot.sl e (.d t)).vp xs p) : p = [] := by
  cases p with
  | nil => rfl
  | cons k p => obtain ⟨y, _, h2⟩ := h; cases p <;> exact h2.elim

/-- What was taken out, as an object. -/
def subOb (e2 : TypeId) : (u : Ot) → (Ot.sl e2 u).D → Ob
  | .d t, y => .row e2 t y
  | .sl e3 u3, y => .trow e2 (.sl e3 u3) y
theorem subOb_live (e2 : TypeId) (u : Ot) (y : (Ot.sl e2 u).D) : (subOb e2 u y).live = true := by cases u <;> rfl

theorem subOb_ok {w : World} {ro : Nat → Prop} {A : Asg} {n : Nat} {e2 : TypeId} {u : Ot} {y : (Ot.sl e2 u).D} (hη : A.κ n [] = A.η n) (h : TreeOk w ro (A.κ n) (A.F n) y) : ObOk w ro A n (subOb e2 u y) := by
  cases u with
  | d t =>
    obtain ⟨⟨css, h1, h2, h3⟩, _⟩ := h.nd
    refine ⟨css, ⟨h1, fun k x u hx hu => h2 k x u hx hu⟩, by rw [← hη]; exact h3, fun g hg => h.F [] g trivial (by rw [hη]; exact hg)⟩
  | sl e3 u3 => exact ⟨hη, h.nd, h.inj, h.F⟩

/-- An own slice is taken out. -/
def opnK (st : St) (i k : Nat) (K : St → Prop) : Prop :=
  match st.ob[i]? with
  | some (.trow e (.sl e2 u) xs) => k < List.length (ls xs) ∧ K { st with ob := st.ob.set i (.hol e e2 u xs k (.os st.ob.length)) ++ [subOb e2 u (List.getD (ls xs) k ([] : List u.D))] }
  | _ => False

theorem opnK_ok [Dn] {w0 : World} {M : Ms} {R0 : Nat → Prop} {A : Asg} {st : St} {a : Act} {w : World} (I : Inv w0 M R0 A st a w) {i k : Nat} {K : St → Prop} (h : opnK st i k K) :
    ∃ A' st', K st' ∧ Inv w0 M R0 A' st' a w ∧ st'.tm = st.tm ∧ A'.n = st.ob.length + 1 ∧ A'.η st.ob.length = A.κ i [k] ∧ A'.κ st.ob.length = at_ (A.κ i) k ∧ A'.κ i = A.κ i ∧ i < A.n := by
  unfold opnK at h
  split at h
  · rename_i e e2 u xs hob
    obtain ⟨hk, hK⟩ := h
    obtain ⟨h1, h2, h3, h4⟩ := I.ob i _ hob
    have hi : i < st.ob.length := (List.getElem?_eq_some_iff.1 hob).1
    have hn : A.n = st.ob.length := I.num
    obtain ⟨y, hy⟩ : ∃ y : (Ot.sl e2 u).D, y = List.getD (ls xs) k ([] : List u.D) := ⟨_, rfl⟩
    have hget : (ls xs)[k]? = some y := by rw [hy]; exact getD_some hk
    have hvk : ∀ {p}, (Ot.sl e2 u).vp y p → (Ot.sl e (.sl e2 u)).vp xs (k :: p) := fun hp => ⟨y, hget, hp⟩
    rw [← hy] at hK
    obtain ⟨F', hF'⟩ : ∃ F' : Nat → Prop, F' = fun b => ∃ p, (Ot.sl e2 u).vp y p ∧ (A.κ i (k :: p)).ownBlock = some b := ⟨_, rfl⟩
    have hFi : ∀ b, F' b → A.F i b := by
      rw [hF']; rintro b ⟨p, hp, hb⟩; exact h4 (k :: p) b (hvk hp) hb
    obtain ⟨A', hA'⟩ : ∃ A' : Asg, A' = { A.pushT (at_ (A.κ i) k) F' with F := fun m b => if m = i then A.F i b ∧ ¬ F' b else (A.pushT (at_ (A.κ i) k) F').F m b } := ⟨_, rfl⟩
    have hAη : ∀ m, A'.η m = (A.pushT (at_ (A.κ i) k) F').η m := fun m => by rw [hA']
    have hAκ : ∀ m, A'.κ m = (A.pushT (at_ (A.κ i) k) F').κ m := fun m => by rw [hA']
    have hle : A.le A' := by
      have := Asg.push_le A (at_ (A.κ i) k) F'
      rw [hA']; exact ⟨this.n, this.η, this.κ, this.μ⟩
    have hηn : A'.η A.n = A.κ i [k] := by rw [hAη, Asg.push_η]; rfl
    have hκn : A'.κ A.n = at_ (A.κ i) k := by rw [hAκ, Asg.push_κ]
    have hFn : ∀ b, A'.F A.n b ↔ F' b := by
      intro b; rw [hA']; simp only
      rw [if_neg (show ¬ A.n = i by omega)]; exact Asg.push_F ..
    have hFiA : ∀ b, A'.F i b ↔ A.F i b ∧ ¬ F' b := by intro b; rw [hA']; simp
    have hFo : ∀ m b, m ≠ i → m ≠ A.n → (A'.F m b ↔ A.F m b) := by
      intro m b hm hmn; rw [hA']; simp only
      rw [if_neg hm]; exact Asg.push_Fo A _ _ hmn b
    have hηi : A'.η i = A.η i := hle.η i (by omega)
    have hκi : A'.κ i = A.κ i := hle.κ i (by omega)
    obtain ⟨ob', hob'⟩ : ∃ ob' : List Ob, ob' = st.ob.set i (.hol e e2 u xs k (.os st.ob.length)) ++ [subOb e2 u y] := ⟨_, rfl⟩
    rw [← hob'] at hK
    have hlen : ob'.length = st.ob.length + 1 := by rw [hob']; simp
    have hgi : ob'[i]? = some (.hol e e2 u xs k (.os st.ob.length)) := by rw [hob', List.getElem?_append_left (by simpa using hi)]; simp [hi]
    have hgn : ob'[st.ob.length]? = some (subOb e2 u y) := by rw [hob', List.getElem?_append_right (by simp)]; simp
    have hgo : ∀ m, m < st.ob.length → m ≠ i → ob'[m]? = st.ob[m]? := fun m hm hmi => by rw [hob', List.getElem?_append_left (by simpa using hm), List.getElem?_set_ne (Ne.symm hmi)]
    have hcase : ∀ m x, ob'[m]? = some x → (m = i ∨ st.ob.length ≤ m) → m = i ∨ m = st.ob.length := by
      intro m x hx h
      have := (List.getElem?_eq_some_iff.1 hx).1
      rcases h with h | h
      · exact .inl h
      · exact .inr (by omega)
    have hro : ∀ b, Ro R0 w0.heap.size A st.ob w b → Ro R0 w0.heap.size A' ob' w b ∧ Kb w w b := by
      rintro b ⟨b1, b2, b3⟩
      refine ⟨⟨b1, b2, fun m x hx hl hf => ?_⟩, Kb.of_eq rfl⟩
      by_cases hmi : m = i
      · subst hmi; exact b3 m _ hob rfl ((hFiA b).1 hf).1
      · by_cases hmn : m = A.n
        · subst hmn; exact b3 i _ hob rfl (hFi b ((hFn b).1 hf))
        · rw [hgo m (by have := (List.getElem?_eq_some_iff.1 hx).1; omega) hmi] at hx
          exact b3 m x hx hl ((hFo m b hmi hmn).1 hf)
    have hnd1 : (Ot.sl e (.sl e2 u)).nd w (Ro R0 w0.heap.size A' ob' w) (A.κ i) xs := Ot.nd_keep hro (fun _ _ _ _ => Cb.of_eq rfl) h2
    refine ⟨A', { st with ob := ob' }, hK, ?_, rfl, ?_, by rw [← hn]; exact hηn, by rw [← hn]; exact hκn, hκi, by omega⟩
    · refine I.go_ (fun m => m = i) rfl rfl rfl (Nat.le_refl _) (fun _ => Nat.le_refl _) (fun _ _ _ => rfl) hle (by rw [hA', hlen]; simp [Asg.pushT, hn]) (fun m hm hT => ⟨hgo m hm hT, fun b => hFo m b hT (by omega)⟩) (fun m x b hx hl h hf => ?_) (fun m m' x x' b hx hx' hl hl' h h' hb hb' => ?_) (fun m x hx h => ?_)
      · refine .inr ⟨i, _, hob, rfl, rfl, ?_⟩
        rcases hcase m x hx h with rfl | rfl
        · exact ((hFiA b).1 hf).1
        · rw [← hn] at hf; exact hFi b ((hFn b).1 hf)
      · rcases hcase m x hx h with rfl | rfl <;> rcases hcase m' x' hx' h' with rfl | rfl
        · rfl
        · rw [← hn] at hb'; exact absurd ((hFn b).1 hb') ((hFiA b).1 hb).2
        · rw [← hn] at hb; exact absurd ((hFn b).1 hb) ((hFiA b).1 hb').2
        · rfl
      · rcases hcase m x hx h with rfl | rfl
        · rw [hgi] at hx; injection hx with hx; subst hx
          obtain ⟨⟨css, c1, c2, c3⟩, hsub⟩ := hnd1
          have hone : (A.κ m [k]).oneCell' = true := by
            obtain ⟨⟨_, _, _, hown⟩, _⟩ := hsub k y hget
            rcases hown.2 with ⟨e0, _⟩ | ⟨_, _, _, _, e0, _⟩ <;> (have e1 : A.κ m [k] = _ := e0; rw [e1]; rfl)
          refine ⟨by rw [hκi, hηi]; exact h1, ⟨css, A.κ m [k], c1, fun q c hc => ?_, by rw [hηi, ← h1]; exact c3, ⟨by rw [hA']; simp [Asg.pushT, hn], by rw [← hn]; exact hηn.symm⟩, hone⟩, hk, rfl, fun q z hq hz => by rw [hκi]; exact hsub q z hz, fun p p' b hp hp' hh hh' hb hb' => ?_, fun p b hp hh hb => ?_⟩
          · have hql : q < (ls xs).length := by rw [← c1]; exact (List.getElem?_eq_some_iff.1 hc).1
            obtain ⟨_, m2⟩ := c2 q _ c (List.getElem?_eq_getElem hql) hc
            have m2' : c = [A.κ m [q]] := m2
            rw [m2', hκi]
            by_cases hqk : q = k
            · rw [if_pos hqk, hqk]
            · rw [if_neg hqk]
          · rw [hκi] at hb hb'; exact h3 p p' b hp hp' hb hb'
          · rw [hκi] at hb
            refine (hFiA b).2 ⟨h4 p b hp hb, fun hf => ?_⟩
            rw [hF'] at hf
            obtain ⟨q, hq, hqb⟩ := hf
            have := h3 p (k :: q) b hp (hvk hq) hb hqb
            subst this
            exact hh rfl
        · rw [hgn] at hx; injection hx with hx; subst hx
          rw [← hn]
          refine subOb_ok (by rw [hκn, hηn]; rfl) ?_
          rw [hκn]
          refine ⟨hnd1.2 k y hget, fun p p' b hp hp' hb hb' => ?_, fun p b hp hb => (hFn b).2 (by rw [hF']; exact ⟨p, hp, hb⟩)⟩
          have := h3 (k :: p) (k :: p') b (hvk hp) (hvk hp') hb hb'
          injection this
    · rw [hA']; simp [Asg.pushT, hn]
  · exact h.elim

def tvO (n : Nat) : List Nat → SV
  | [] => .os n
  | q :: p => .tv n (q :: p)
/-- Slots that held what is taken out. -/
def opnS (i k n : Nat) : List Nat → St → (St → Prop) → Prop
  | [], st, K => K st
  | j :: r, st, K => match st.tm.getD j .any with
    | .tv i' (k' :: p) => if i' = i then k' = k ∧ opnS i k n r (st.put (some j) (tvO n p)) K else False
    | _ => False

/-- An own slice is taken out; some slots hold it. -/
def opnV (st : St) (i k : Nat) (l : List Nat) (K : St → Prop) : Prop := opnK st i k fun st' => opnS i k st.ob.length l st' K

theorem put_same {a : Act} {j : Nat} (hj : j < a.tmps.size) : a.put (some j) (a.tmps.getD j undef) = a := by
  simp only [Act.put]
  congr 1
  apply Array.ext_getElem?
  intro i
  rw [Array.getElem?_setIfInBounds]
  split
  · rename_i hi; subst hi; simp [hj]
  · rfl

theorem opnS_ok [Dn] {w0 : World} {M : Ms} {R0 : Nat → Prop} {A : Asg} {i k n : Nat} (hin : n < A.n) (hη : A.η n = A.κ i [k]) (hκ : A.κ n = at_ (A.κ i) k) {K : St → Prop} : ∀ {l : List Nat} {st : St} {a : Act} {w : World}, Inv w0 M R0 A st a w → opnS i k n l st K → ∃ st', K st' ∧ Inv w0 M R0 A st' a w := by
  intro l
  induction l with
  | nil => intro st a w I h; exact ⟨st, h, I⟩
  | cons j r ih =>
    intro st a w I h
    unfold opnS at h
    split at h
    · rename_i i' k' p htm
      split at h
      · rename_i hi; subst hi
        obtain ⟨rfl, h⟩ := h
        have hlt : j < st.tm.length := by
          rcases Nat.lt_or_ge j st.tm.length with h | h
          · exact h
          · rw [List.getD_eq_getElem?_getD, List.getElem?_eq_none h] at htm; cases htm
        have hsv := I.tm j _ (List.getElem?_eq_getElem hlt)
        have hsl : st.tm[j] = .tv i' (k' :: p) := by
          rw [List.getD_eq_getElem?_getD, List.getElem?_eq_getElem hlt] at htm
          exact htm
        rw [hsl] at hsv
        obtain ⟨_, hv, hone⟩ := hsv
        have hI := I.put (d := some j) (v := a.tmps.getD j undef) (s := tvO n p) (by
          cases p with
          | nil => exact ⟨hin, by rw [hη]; exact hv⟩
          | cons q p => exact ⟨hin, by rw [hκ]; exact hv, hone⟩)
        rw [put_same (by rw [I.len]; exact hlt)] at hI
        exact ih hI h
      · exact h.elim
    · exact h.elim

theorem opnV_ok [Dn] {w0 : World} {M : Ms} {R0 : Nat → Prop} {A : Asg} {st : St} {a : Act} {w : World} (I : Inv w0 M R0 A st a w) {i k : Nat} {l : List Nat} {K : St → Prop} (h : opnV st i k l K) : ∃ A' st', K st' ∧ Inv w0 M R0 A' st' a w := by
  obtain ⟨A', st', h1, I1, _, h3, h4, h5, h6, h7⟩ := opnK_ok I h
  obtain ⟨st2, h8, I2⟩ := opnS_ok (by omega) (by rw [h4, h6]) (by rw [h5, h6]) I1 h1
  exact ⟨A', st2, h8, I2⟩

/-! Laid back. -/

/-- The paths of an object are named anew. -/
def Asg.setκ (A : Asg) (i : Nat) (κ' : List Nat → Value) : Asg := { A with κ := fun m => if m = i then κ' else A.κ m }
def kilG (i : Nat) (m : Nat) : Option Nat := if m = i then none else some m
theorem Mv.setκ (A : Asg) (i : Nat) (κ' : List Nat → Value) : Mv A (A.setκ i κ') some (kilG i) := by
  refine ⟨fun m k hm e => ?_, fun m k hm e => ?_⟩
  · injection e with e; subst e; exact ⟨hm, rfl⟩
  · unfold kilG at e
    split at e
    · cases e
    · rename_i hne
      injection e with e; subst e
      exact ⟨hm, by simp [Asg.setκ, hne]⟩
theorem SvOk0.setκ {w : World} {ro : Nat → Prop} {A : Asg} {i : Nat} {κ' : List Nat → Value} {s : SV} {v : Value} (h1 : s.one = true ∨ s.hs = true) (h : SvOk0 w ro A s v) : SvOk0 w ro (A.setκ i κ') s v := by
  cases s <;> first | exact h | simp [SV.one, SV.hs] at h1
theorem ObOk.setκ {w : World} {ro : Nat → Prop} {A : Asg} {i m : Nat} {κ' : List Nat → Value} (hm : m ≠ i) {o : Ob} (h : ObOk w ro A m o) : ObOk w ro (A.setκ i κ') m o := by
  have hκ : (A.setκ i κ').κ m = A.κ m := by simp [Asg.setκ, hm]
  cases o with
  | st e l =>
    obtain ⟨g, cs, e1, hf, hh, css, k1, k2, k3⟩ := h
    exact ⟨g, cs, e1, hf, hh, css, k1, k2, fun j s u h1 h2 => ⟨(k3 j s u h1 h2).1, (k3 j s u h1 h2).2.1, by
      obtain ⟨v, m1, m2, m3⟩ := (k3 j s u h1 h2).2.2
      exact ⟨v, m1, m2.setκ (.inl (k3 j s u h1 h2).1), m3⟩⟩⟩
  | trow e u xs =>
    obtain ⟨h1, h2, h3, h4⟩ := h
    exact ⟨by rw [hκ]; exact h1, by rw [hκ]; exact h2, by rw [hκ]; exact h3, by rw [hκ]; exact h4⟩
  | hol e e2 u xs k s =>
    obtain ⟨h1, ⟨css, hv, c1, c2, c3, h4, h5⟩, h2, h3, h6, h7, h8⟩ := h
    exact ⟨by rw [hκ]; exact h1, ⟨css, hv, c1, by rw [hκ]; exact c2, c3, h4.setκ (.inr h3), h5⟩, h2, h3, by rw [hκ]; exact h6, by rw [hκ]; exact h7, by rw [hκ]; exact h8⟩
  | _ => exact h

def St.kil (st : St) (i : Nat) (o : Ob) : St := ⟨st.tm.map (mvT some (kilG i)), st.ob.set i o, st.gs.map fun x => (x.1, mvT some (kilG i) x.2)⟩

theorem Inv.untok [Dn] {w0 : World} {M : Ms} {R0 : Nat → Prop} {A : Asg} {st : St} {a : Act} {w : World} (I : Inv w0 M R0 A st a w) {i : Nat} {o : Ob} (κ' : List Nat → Value) (h0 : st.ob[i]? = some .tok) (hl : o.live = true)
    (hnew : (∀ b, Ro R0 w0.heap.size A st.ob w b → Ro R0 w0.heap.size (A.setκ i κ') (st.ob.set i o) w b) → ObOk w (Ro R0 w0.heap.size (A.setκ i κ') (st.ob.set i o) w) (A.setκ i κ') i o) :
    Inv w0 M R0 (A.setκ i κ') (st.kil i o) a w ∧ ∀ s v, SvOk w (Ro R0 w0.heap.size A st.ob w) A s v → SvOk w (Ro R0 w0.heap.size (A.setκ i κ') (st.ob.set i o) w) (A.setκ i κ') (mvT some (kilG i) s) v := by
  have hi : i < st.ob.length := (List.getElem?_eq_some_iff.1 h0).1
  have hself : (st.ob.set i o)[i]? = some o := by simp [hi]
  have hback : ∀ (m : Nat) (x : Ob), (st.ob.set i o)[m]? = some x → x.live = true → ∃ y : Ob, st.ob[m]? = some y ∧ y.live = true := by
    intro m x hx hlx
    by_cases hm : m = i
    · subst hm; exact ⟨_, h0, rfl⟩
    · rw [List.getElem?_set_ne (Ne.symm hm)] at hx; exact ⟨x, hx, hlx⟩
  have hro : ∀ b, Ro R0 w0.heap.size A st.ob w b → Ro R0 w0.heap.size (A.setκ i κ') (st.ob.set i o) w b := by
    rintro b ⟨b1, b2, b3⟩
    refine ⟨b1, b2, fun m x hx hlx hf => ?_⟩
    obtain ⟨y, h1, h2⟩ := hback m x hx hlx
    exact b3 m y h1 h2 hf
  have hro' : ∀ b, Ro R0 w0.heap.size A st.ob w b → Ro R0 w0.heap.size (A.setκ i κ') (st.ob.set i o) w b ∧ Kb w w b := fun b hb => ⟨hro b hb, Kb.of_eq rfl⟩
  have hsv : ∀ s v, SvOk w (Ro R0 w0.heap.size A st.ob w) A s v → SvOk w (Ro R0 w0.heap.size (A.setκ i κ') (st.ob.set i o) w) (A.setκ i κ') (mvT some (kilG i) s) v := fun s v h => mvT_ok (Mv.setκ A i κ') hro' h
  refine ⟨⟨I.fr, I.defers, fun D hD => ?_, ?_, ?_, fun k sv hk => ?_, fun j sv hj => ?_, fun m x hx => ?_, fun m m' x x' b hx hx' hlx hlx' hb hb' => ?_, fun m x b hx hlx hf => ?_⟩, hsv⟩
  · obtain ⟨h1, h2, h3⟩ := I.mks D hD
    refine ⟨h1, h2, fun m x hx hlx hf => ?_⟩
    obtain ⟨y, k1, k2⟩ := hback m x hx hlx
    exact h3 m y k1 k2 hf
  · show A.n = _
    rw [I.num]; simp [St.kil]
  · rw [I.len]; simp [St.kil]
  · simp only [St.kil, List.mem_map] at hk
    obtain ⟨x, hx, he⟩ := hk
    injection he with he1 he2; subst he1; subst he2
    exact hsv _ _ (I.gh _ _ hx)
  · simp only [St.kil, List.getElem?_map] at hj
    obtain ⟨s, h1, rfl⟩ := Option.map_eq_some_iff.1 hj
    exact hsv _ _ (I.tm j s h1)
  · by_cases hm : m = i
    · subst hm
      have hx' : (st.ob.set m o)[m]? = some x := hx
      rw [hself] at hx'; injection hx' with hx'; subst hx'
      exact hnew hro
    · have hx' : (st.ob.set i o)[m]? = some x := hx
      rw [List.getElem?_set_ne (Ne.symm hm)] at hx'
      have hmn : m < A.n := by rw [I.num]; exact (List.getElem?_eq_some_iff.1 hx').1
      exact ((I.ob m x hx').keep (A' := A) (ro' := Ro R0 w0.heap.size (A.setκ i κ') (st.ob.set i o) w) hro' (Asg.le.refl A) hmn (fun _ => Iff.rfl) (fun _ _ => Cb.of_eq rfl) (fun _ _ _ => rfl)).setκ hm
  · obtain ⟨y, k1, k2⟩ := hback m x hx hlx
    obtain ⟨y', k1', k2'⟩ := hback m' x' hx' hlx'
    exact I.dj m m' y y' b k1 k1' k2 k2' hb hb'
  · obtain ⟨y, k1, k2⟩ := hback m x hx hlx
    exact I.fp m y b k1 k2 hf

/-- What stands in the gap, as what it is. -/
def clsY (st : St) (e2 : TypeId) (u : Ot) : SV → Option (Nat × (Ot.sl e2 u).D)
  | .os j => match st.ob[j]? with
    | some (.row e' t ys) => if h : e' = e2 ∧ Ot.d t = u then some (j, (h.2 ▸ (ys : List (Ot.d t).D) : List u.D)) else none
    | some (.trow e' u' ys) => if h : e' = e2 ∧ u' = u then some (j, (h.2 ▸ (ls ys : List u'.D) : List u.D)) else none
    | _ => none
  | .oc t j a => match st.ob[j]? with
    | some (.row e' t' ys) => if h : (e' = e2 ∧ t' = t) ∧ Ot.d t' = u then some (j, (h.2 ▸ (List.drop a ys : List (Ot.d t').D) : List u.D)) else none
    | _ => none
  | _ => none

theorem ownsZ_drop {w : World} {e : TypeId} {size : Nat} {g z n c a : Nat} {css : List (List Value)} (hall : ∀ u ∈ css, u.length = size) (h : ownsZ w e size (.slice (some ⟨g, z, none⟩) n c) n css.flatten) (ha : a ≤ n) :
    ownsZ w e size (.slice (some ⟨g, if c = a then z else z + a * size, none⟩) (n - a) (c - a)) (n - a) (css.drop a).flatten := by
  obtain ⟨hl, h⟩ := h
  have hfl : (css.drop a).flatten = css.flatten.drop (a * size) := by
    have h2 : ∀ (css : List (List Value)), (∀ u ∈ css, u.length = size) → ∀ i, (css.drop i).flatten = css.flatten.drop (i * size) := by
      intro css
      induction css with
      | nil => intro _ i; simp
      | cons c r ih =>
        intro h i
        have hc := h c (List.mem_cons_self ..)
        cases i with
        | zero => simp
        | succ i =>
          rw [List.drop_succ_cons, List.flatten_cons, ih (fun u hu => h u (List.mem_cons_of_mem _ hu)), show (i + 1) * size = c.length + i * size by rw [hc, Nat.add_mul]; omega, drop_app]
    exact h2 css hall a
  have hsub : (n - a) * size = n * size - a * size := Nat.sub_mul ..
  refine ⟨by rw [hfl, List.length_drop, hl, hsub], .inr ?_⟩
  rcases h with ⟨he, _⟩ | ⟨g', z', cap, cur, he, hh, hnc, hcm, hcur, htake⟩
  · cases he
  injection he with he1 he2 he3
  injection he1 with he1; injection he1 with he1 he4; subst he1; subst he4; subst he3
  refine ⟨g, _, c - a, cur, rfl, hh, by omega, by omega, ?_, ?_⟩
  · have h3 : (c - a) * size = c * size - a * size := Nat.sub_mul ..
    have h4 : a * size ≤ c * size := Nat.mul_le_mul_right _ (by omega)
    split <;> omega
  · rw [hfl, ← htake]
    by_cases hc : c = a
    · rw [if_pos hc]
      have hn : n - a = 0 := by omega
      have hna : n = a := by omega
      rw [hn, Nat.zero_mul, List.take_zero, hna, List.drop_eq_nil_of_le (by simp; omega)]
    · rw [if_neg hc, List.drop_take, List.drop_drop, hsub]

theorem clsY_ok [Dn] {w0 : World} {M : Ms} {R0 : Nat → Prop} {A : Asg} {st : St} {a : Act} {w : World} (I : Inv w0 M R0 A st a w) {e2 : TypeId} {u : Ot} {s : SV} {j : Nat} {y : (Ot.sl e2 u).D} (h : clsY st e2 u s = some (j, y)) {hv : Value} (hs : SvOk0 w (Ro R0 w0.heap.size A st.ob w) A s hv) :
    ∃ κ2 : List Nat → Value, κ2 [] = hv ∧ TreeOk w (Ro R0 w0.heap.size A st.ob w) κ2 (A.F j) y ∧ ∃ o, st.ob[j]? = some o ∧ o.live = true ∧ ∀ e e2 u xs k s, o ≠ .hol e e2 u xs k s := by
  unfold clsY at h
  split at h
  · rename_i j'
    split at h
    · rename_i e' t ys hob
      split at h
      · rename_i hh
        obtain ⟨rfl, rfl⟩ := hh
        injection h with h; injection h with h1 h2; subst h1
        have h2' : ys = y := h2
        subst h2'
        obtain ⟨_, rfl⟩ := hs
        obtain ⟨css, hoks, hown, hF⟩ := I.ob j' _ hob
        refine ⟨fun _ => A.η j', rfl, ⟨⟨⟨css, hoks.1, fun k y c hy hc => hoks.2 k y c hy hc, hown⟩, fun _ _ _ => trivial⟩, fun p p' b hp hp' _ _ => ?_, fun p b _ hb => hF b hb⟩, _, hob, rfl, fun _ _ _ _ _ _ h => by cases h⟩
        rw [vp_d hp, vp_d hp']
      · cases h
    · rename_i e' u' ys hob
      split at h
      · rename_i hh
        obtain ⟨rfl, rfl⟩ := hh
        injection h with h; injection h with h1 h2; subst h1
        have h2' : ys = y := h2
        subst h2'
        obtain ⟨_, rfl⟩ := hs
        obtain ⟨h1, h2, h3, h4⟩ := I.ob j' _ hob
        exact ⟨A.κ j', h1, ⟨h2, h3, h4⟩, _, hob, rfl, fun _ _ _ _ _ _ h => by cases h⟩
      · cases h
    · cases h
  · rename_i t j' q
    split at h
    · rename_i e' t' ys hob
      split at h
      · rename_i hh
        obtain ⟨⟨rfl, rfl⟩, rfl⟩ := hh
        injection h with h; injection h with h1 h2; subst h1
        have h2' : List.drop q ys = y := h2
        subst h2'
        obtain ⟨_, g, z, n, c, hη, hqn, rfl⟩ := hs
        obtain ⟨css, hoks, hown, hF⟩ := I.ob j' _ hob
        rw [hη] at hown
        have hn : n = ys.length := by
          rcases hown.2 with ⟨e1, _⟩ | ⟨_, _, _, _, e1, _⟩
          · cases e1
          · injection e1
        subst hn
        have hd := ownsZ_drop hoks.all hown hqn
        refine ⟨fun _ => .slice (some ⟨g, if c = q then z else z + q * t'.size, none⟩) (ys.length - q) (c - q), rfl, ⟨⟨⟨css.drop q, ?_, fun k y cc hy hc => ?_, ?_⟩, fun _ _ _ => trivial⟩, fun p p' b hp hp' _ _ => ?_, fun p b _ hb => ?_⟩, _, hob, rfl, fun _ _ _ _ _ _ h => by cases h⟩
        · rw [List.length_drop, hoks.1]; exact List.length_drop.symm
        · have hy' : (List.drop q ys)[k]? = some y := hy
          rw [List.getElem?_drop] at hy' hc
          exact hoks.2 _ y cc hy' hc
        · show ownsZ w e' t'.size _ (List.drop q ys).length _
          rw [List.length_drop]; exact hd
        · rw [vp_d hp, vp_d hp']
        · refine hF b ?_
          rw [hη]; exact hb
      · cases h
    · cases h
  · cases h

/-- What was taken out is laid back. -/
def clsK (st : St) (i : Nat) (as : List SV) (K : St → List SV → Prop) : Prop :=
  match st.ob[i]? with
  | some (.hol e e2 u xs k s) => match clsY st e2 u s with
    | some (j, y) => K (({ st with ob := st.ob.set j .dead } : St).kil i (.trow e (.sl e2 u) (List.set (ls xs) k y))) (as.map (mvT some (kilG i)))
    | none => False
  | _ => False

theorem clsK_ok [Dn] {w0 : World} {M : Ms} {R0 : Nat → Prop} {A : Asg} {st : St} {a : Act} {w : World} (I : Inv w0 M R0 A st a w) {i : Nat} {as : List SV} {K : St → List SV → Prop} (h : clsK st i as K) :
    ∃ A' st' g, K st' (as.map g) ∧ Inv w0 M R0 A' st' a w ∧ (∀ s v, SvOk w (Ro R0 w0.heap.size A st.ob w) A s v → SvOk w (Ro R0 w0.heap.size A' st'.ob w) A' (g s) v) ∧ A'.η = A.η := by
  unfold clsK at h
  split at h
  · rename_i e e2 u xs k s hob
    split at h
    · rename_i j y hy
      obtain ⟨h1, ⟨css, hv, c1, c2, c3, h4, h5⟩, h2, h3, h6, h7, h8⟩ := I.ob i _ hob
      obtain ⟨κ2, q1, q2, oj, hobj, hlj, hnh⟩ := clsY_ok I hy h4
      have hij : i ≠ j := by rintro rfl; rw [hob] at hobj; injection hobj with hobj; exact hnh _ _ _ _ _ _ hobj.symm
      have hi : i < st.ob.length := (List.getElem?_eq_some_iff.1 hob).1
      have hj : j < st.ob.length := (List.getElem?_eq_some_iff.1 hobj).1
      have hn : A.n = st.ob.length := I.num
      obtain ⟨A1, hA1⟩ : ∃ A1 : Asg, A1 = { A with F := fun m b => if m = i then A.F i b ∨ A.F j b else A.F m b } := ⟨_, rfl⟩
      have hle : A.le A1 := by rw [hA1]; exact ⟨Nat.le_refl _, fun _ _ => rfl, fun _ _ => rfl, rfl⟩
      have hFi : ∀ b, A1.F i b ↔ A.F i b ∨ A.F j b := fun b => by rw [hA1]; simp
      have hFo : ∀ m b, m ≠ i → (A1.F m b ↔ A.F m b) := fun m b hm => by rw [hA1]; simp only; rw [if_neg hm]
      have hη1 : A1.η = A.η := by rw [hA1]
      have hκ1 : A1.κ = A.κ := by rw [hA1]
      obtain ⟨ob1, hob1⟩ : ∃ ob1 : List Ob, ob1 = (st.ob.set j .dead).set i .tok := ⟨_, rfl⟩
      have hg1 : ob1[i]? = some .tok := by rw [hob1]; simp [hi]
      have hg2 : ob1[j]? = some .dead := by rw [hob1, List.getElem?_set_ne hij]; simp [hj]
      have hg3 : ∀ m, m ≠ i → m ≠ j → ob1[m]? = st.ob[m]? := fun m hm1 hm2 => by rw [hob1, List.getElem?_set_ne (Ne.symm hm1), List.getElem?_set_ne (Ne.symm hm2)]
      have hlen1 : ob1.length = st.ob.length := by rw [hob1]; simp
      have hc : ∀ m x, ob1[m]? = some x → ((m = i ∨ m = j) ∨ st.ob.length ≤ m) → x.live = true → m = i := by
        intro m x hx h hl
        rcases h with (h | h) | h
        · exact h
        · subst h; rw [hg2] at hx; injection hx with hx; subst hx; cases hl
        · have := (List.getElem?_eq_some_iff.1 hx).1; omega
      have hnm : ∀ b, A.η i ≠ .map (some b) := by
        intro b hb
        rcases c3.2 with ⟨e0, _⟩ | ⟨_, _, _, _, e0, _⟩ <;> rw [hb] at e0 <;> cases e0
      have I1 : Inv w0 M R0 A1 { st with ob := ob1 } a w := by
        refine I.go_ (fun m => m = i ∨ m = j) rfl rfl rfl (Nat.le_refl _) (fun _ => Nat.le_refl _) (fun _ _ _ => rfl) hle (by rw [hA1, hlen1]; exact hn) (fun m hm hT => ⟨hg3 m (fun h => hT (.inl h)) (fun h => hT (.inr h)), fun b => hFo m b (fun h => hT (.inl h))⟩) (fun m x b hx hl h hf => ?_) (fun m m' x x' b hx hx' hl hl' h h' _ _ => ?_) (fun m x hx h => ?_)
        · have hm := hc m x hx h hl
          subst hm
          rcases (hFi b).1 hf with hf | hf
          · exact .inr ⟨m, _, hob, rfl, .inl rfl, hf⟩
          · exact .inr ⟨j, _, hobj, hlj, .inr rfl, hf⟩
        · rw [hc m x hx h hl, hc m' x' hx' h' hl']
        · by_cases hl : x.live = true
          · have hm := hc m x hx h hl
            subst hm
            rw [hg1] at hx; injection hx with hx; subst hx
            intro b; rw [hη1]; exact hnm b
          · cases x <;> first | trivial | simp [Ob.live] at hl
      have hro1 : ∀ b, Ro R0 w0.heap.size A st.ob w b → Ro R0 w0.heap.size A1 ob1 w b := by
        rintro b ⟨b1, b2, b3⟩
        refine ⟨b1, b2, fun m x hx hl hf => ?_⟩
        by_cases hm : m = i
        · subst hm
          rcases (hFi b).1 hf with hf | hf
          · exact b3 m _ hob rfl hf
          · exact b3 j _ hobj hlj hf
        · by_cases hmj : m = j
          · subst hmj; rw [hg2] at hx; injection hx with hx; subst hx; cases hl
          · rw [hg3 m hm hmj] at hx; exact b3 m x hx hl ((hFo m b hm).1 hf)
      obtain ⟨κ', hκ'⟩ : ∃ κ' : List Nat → Value, κ' = fun q => match q with
        | m :: r => if m = k then κ2 r else A.κ i (m :: r)
        | [] => A.κ i [] := ⟨_, rfl⟩
      have hκ'n : κ' [] = A.κ i [] := by rw [hκ']
      have hκ'k : ∀ r, κ' (k :: r) = κ2 r := fun r => by rw [hκ']; simp
      have hκ'm : ∀ m r, m ≠ k → κ' (m :: r) = A.κ i (m :: r) := fun m r hm => by rw [hκ']; simp [hm]
      have hlx : (ls (e := e) (u := .sl e2 u) (List.set (ls xs) k y)).length = (ls xs).length := List.length_set ..
      -- a path of the whole
      have hvp : ∀ p, (Ot.sl e (.sl e2 u)).vp (List.set (ls xs) k y) p → p = [] ∨ (∃ r, p = k :: r ∧ (Ot.sl e2 u).vp y r) ∨ ∃ m r, p = m :: r ∧ m ≠ k ∧ (Ot.sl e (.sl e2 u)).vp xs p := by
        intro p hp
        cases p with
        | nil => exact .inl rfl
        | cons m r =>
          obtain ⟨z, hz, hr⟩ := hp
          have hz' : (List.set (ls xs) k y)[m]? = some z := hz
          by_cases hm : m = k
          · subst hm
            rw [List.getElem?_set_self h2] at hz'
            injection hz' with hz'; subst hz'
            exact .inr (.inl ⟨r, rfl, hr⟩)
          · rw [List.getElem?_set_ne (Ne.symm hm)] at hz'
            exact .inr (.inr ⟨m, r, rfl, hm, z, hz', hr⟩)
      have hdj : ∀ b, A.F i b → A.F j b → False := fun b hb hb' => hij (I.dj i j _ _ b hob hobj rfl hlj hb hb')
      obtain ⟨I2, hsv⟩ := I1.untok (o := .trow e (.sl e2 u) (List.set (ls xs) k y)) κ' hg1 rfl (fun hro2 => by
        have hr : ∀ b, Ro R0 w0.heap.size A st.ob w b → Ro R0 w0.heap.size (A1.setκ i κ') (ob1.set i (.trow e (.sl e2 u) (List.set (ls xs) k y))) w b ∧ Kb w w b := fun b hb => ⟨hro2 b (hro1 b hb), Kb.of_eq rfl⟩
        have hκi : (A1.setκ i κ').κ i = κ' := by simp [Asg.setκ]
        have hηi : (A1.setκ i κ').η i = A.η i := by show A1.η i = _; rw [hη1]
        refine ⟨by rw [hκi, hηi, hκ'n]; exact h1, ?_, ?_, ?_⟩
        · rw [hκi]
          refine ⟨⟨css, by rw [hlx]; exact c1, fun m z c hz hc => ?_, ?_⟩, fun m z hz => ?_⟩
          · have := c2 m c hc
            have e1 : (if m = k then hv else A.κ i [m]) = κ' [m] := by
              by_cases hm : m = k
              · rw [if_pos hm, hm, hκ'k, q1]
              · rw [if_neg hm, hκ'm m [] hm]
            rw [this, e1]
            exact ⟨rfl, rfl⟩
          · rw [hκ'n, h1, hlx]; exact c3
          · have hz' : (List.set (ls xs) k y)[m]? = some z := hz
            by_cases hm : m = k
            · subst hm
              rw [List.getElem?_set_self h2] at hz'
              injection hz' with hz'; subst hz'
              have e1 : at_ κ' m = κ2 := by funext r; exact hκ'k r
              rw [e1]
              exact Ot.nd_keep hr (fun _ _ _ _ => Cb.of_eq rfl) q2.nd
            · rw [List.getElem?_set_ne (Ne.symm hm)] at hz'
              have e1 : at_ κ' m = at_ (A.κ i) m := by funext r; exact hκ'm m r hm
              rw [e1]
              exact Ot.nd_keep hr (fun _ _ _ _ => Cb.of_eq rfl) (h6 m z hm hz')
        · rw [hκi]
          intro p p' b hp hp' hb hb'
          have hFk : ∀ r, (Ot.sl e2 u).vp y r → (κ' (k :: r)).ownBlock = some b → A.F j b := fun r hr hb => q2.F r b hr (by rw [← hκ'k r]; exact hb)
          have hFm : ∀ p, (Ot.sl e (.sl e2 u)).vp xs p → p.head? ≠ some k → (κ' p).ownBlock = some b → A.F i b := by
            intro p hp hh hb
            refine h8 p b hp hh ?_
            cases p with
            | nil => rw [← hκ'n]; exact hb
            | cons m r => rw [← hκ'm m r (by simpa using hh)]; exact hb
          have hh0 : ([] : List Nat).head? ≠ some k := by simp
          rcases hvp p hp with rfl | ⟨r, rfl, hr⟩ | ⟨m, r, rfl, hm, hr⟩ <;> rcases hvp p' hp' with rfl | ⟨r', rfl, hr'⟩ | ⟨m', r', rfl, hm', hr'⟩
          · rfl
          · exact (hdj b (hFm [] trivial hh0 hb) (hFk r' hr' hb')).elim
          · rw [hκ'n] at hb; rw [hκ'm m' r' hm'] at hb'
            exact h7 [] _ b trivial hr' hh0 (by simpa using hm') hb hb'
          · exact (hdj b (hFm [] trivial hh0 hb') (hFk r hr hb)).elim
          · rw [hκ'k] at hb hb'
            rw [q2.inj r r' b hr hr' hb hb']
          · exact (hdj b (hFm _ hr' (by simpa using hm') hb') (hFk r hr hb)).elim
          · rw [hκ'n] at hb'; rw [hκ'm m r hm] at hb
            exact h7 _ [] b hr trivial (by simpa using hm) hh0 hb hb'
          · exact (hdj b (hFm _ hr (by simpa using hm) hb) (hFk r' hr' hb')).elim
          · rw [hκ'm m r hm] at hb; rw [hκ'm m' r' hm'] at hb'
            exact h7 _ _ b hr hr' (by simpa using hm) (by simpa using hm') hb hb'
        · rw [hκi]
          intro p b hp hb
          refine (hFi b).2 ?_
          rcases hvp p hp with rfl | ⟨r, rfl, hr⟩ | ⟨m, r, rfl, hm, hr⟩
          · exact .inl (h8 [] b trivial (by simp) (by rw [← hκ'n]; exact hb))
          · exact .inr (q2.F r b hr (by rw [← hκ'k r]; exact hb))
          · exact .inl (h8 _ b hr (by simpa using hm) (by rw [← hκ'm m r hm]; exact hb)))
      have e3 : ({ st with ob := ob1 } : St).kil i (.trow e (.sl e2 u) (List.set (ls xs) k y)) = ({ st with ob := st.ob.set j .dead } : St).kil i (.trow e (.sl e2 u) (List.set (ls xs) k y)) := by
        simp only [St.kil]
        rw [hob1, List.set_set]
      refine ⟨_, _, mvT some (kilG i), h, by rw [← e3]; exact I2, fun s v hs => ?_, (show (A1.setκ i κ').η = A.η from hη1)⟩
      have e4 : (({ st with ob := st.ob.set j .dead } : St).kil i (.trow e (.sl e2 u) (List.set (ls xs) k y))).ob = ob1.set i (.trow e (.sl e2 u) (List.set (ls xs) k y)) := by
        rw [hob1, List.set_set]; rfl
      rw [e4]
      exact hsv s v (hs.keep (fun b hb => ⟨hro1 b hb, Kb.of_eq rfl⟩) hle)
    · exact h.elim
  · exact h.elim

/-- All that was taken out is laid back. -/
def clsA : Nat → St → List SV → (St → List SV → Prop) → Prop
  | 0, st, as, K => K st as
  | n + 1, st, as, K => match st.ob.getD n .dead with
    | .hol _ _ _ _ _ _ => clsK st n as fun st' as' => clsA n st' as' K
    | _ => clsA n st as K

theorem clsA_ok [Dn] {w0 : World} {M : Ms} {R0 : Nat → Prop} {a : Act} {w : World} {K : St → List SV → Prop} : ∀ {n : Nat} {A : Asg} {st : St} {as : List SV}, Inv w0 M R0 A st a w → clsA n st as K →
    ∃ A' st' g, K st' (as.map g) ∧ Inv w0 M R0 A' st' a w ∧ (∀ s v, SvOk w (Ro R0 w0.heap.size A st.ob w) A s v → SvOk w (Ro R0 w0.heap.size A' st'.ob w) A' (g s) v) ∧ A'.η = A.η := by
  intro n
  induction n with
  | zero => intro A st as I h; exact ⟨A, st, id, by rw [List.map_id]; exact h, I, fun s v hs => hs, rfl⟩
  | succ n ih =>
    intro A st as I h
    unfold clsA at h
    split at h
    · obtain ⟨A1, st1, g1, h1, I1, hs1, e1⟩ := clsK_ok I h
      obtain ⟨A2, st2, g2, h2, I2, hs2, e2⟩ := ih I1 h1
      exact ⟨A2, st2, g2 ∘ g1, by rw [← List.map_map]; exact h2, I2, fun s v hs => hs2 _ v (hs1 s v hs), e2.trans e1⟩
    · exact ih I h
end Go.Vc
