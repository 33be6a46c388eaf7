/- VC framework, part M: code, loops, whole functions. -/
import Derived.Test.YtgbpjjinhjikeaaVcL
import Derived.Test.YtgbpjjinhjikeaaVcW
namespace Go.Vc
open Go.RowKit

/-! One state says less than another. -/

def leS : SV → SV → Prop
  | _, .any => True
  | .d t x, .d t' x' => if h : t = t' then (h ▸ x) = x' else False
  | .bt b, .bt b' => b = b'
  | .bt b, .d .bool b' => b = b'
  | .d .bool b, .bt b' => b = b'
  | .nils, .nils => True
  | .nilp, .nilp => True
  | .nils, .d (.sl _) xs => xs = []
  | .os i, .os j => if i = j then True else False
  | .pv t i q, .pv t' i' q' => if t = t' ∧ i = i' then q = q' else False
  | _, _ => False

theorem leS_ok {w : World} {ro : Nat → Prop} {A : Asg} {s s' : SV} {v : Value} (h : leS s s') (hs : SvOk w ro A s v) : SvOk w ro A s' v := by
  unfold leS at h
  split at h
  · trivial
  · split at h
    · rename_i ht; subst ht; simp only at h; subst h; exact hs
    · exact h.elim
  · subst h; exact hs
  · subst h
    have hs' : v = .bool _ := hs
    subst hs'; exact okBool
  · subst h
    have hs' : [v] = [Value.bool _] := hs
    injection hs'
  · exact hs
  · exact hs
  · subst h
    have hs' : v = .slice none 0 0 := hs
    subst hs'
    exact ⟨none, 0, rfl, Nat.zero_le _, Nat.zero_le _, fun h => absurd rfl h⟩
  · split at h
    · rename_i hi; subst hi; exact hs
    · exact h.elim
  · split at h
    · rename_i hi; obtain ⟨rfl, rfl⟩ := hi; subst h; exact hs
    · exact h.elim
  · exact h.elim

def leO : Ob → Ob → Prop
  | _, .dead => True
  | .var e t x, .var e' t' x' => if h : t = t' then e = e' ∧ (h ▸ x) = x' else False
  | .row e t xs, .row e' t' xs' => if h : t = t' then e = e' ∧ (h ▸ xs) = xs' else False
  | _, _ => False

def leTm : List SV → List SV → Prop
  | [], [] => True
  | s :: l, s' :: l' => match s' with
    | .any => leTm l l'
    | s' => leS s s' ∧ leTm l l'
  | _, _ => False

def leOb : List Ob → List Ob → Prop
  | [], [] => True
  | o :: l, o' :: l' => match o' with
    | .dead => leOb l l'
    | o' => leO o o' ∧ leOb l l'
  | _, _ => False

/-- A state whose objects are named anew: the new object k is the old object σ[k]. -/
def idx : List Nat → Nat → Option Nat
  | [], _ => none
  | x :: r, i => if x = i then some 0 else match idx r i with
    | some k => some (k + 1)
    | none => none
def reS (σ : List Nat) : SV → SV
  | .os i => match idx σ i with
    | some k => .os k
    | none => .any
  | .pv t i q => match idx σ i with
    | some k => .pv t k q
    | none => .any
  | .ea t i n q => match idx σ i with
    | some k => .ea t k n q
    | none => .any
  | .pc i o => match idx σ i with
    | some k => .pc k o
    | none => .any
  | .ag _ => .any
  | .tp _ => .any
  | s => s
def reO (σ : List Nat) : Ob → Ob
  | .cells e l => .cells e (l.map (reS σ))
  | o => o
def St.re (st : St) (σ : List Nat) : St := ⟨st.tm.map (reS σ), σ.map fun i => reO σ (st.ob.getD i .dead)⟩
def Asg.re (A : Asg) (σ : List Nat) : Asg := ⟨σ.length, fun k => A.η (σ.getD k 0), fun k => A.F (σ.getD k 0)⟩

theorem idx_spec : ∀ {σ : List Nat} {i k : Nat}, idx σ i = some k → k < σ.length ∧ σ.getD k 0 = i := by
  intro σ
  induction σ with
  | nil => intro i k h; cases h
  | cons x r ih =>
    intro i k h
    unfold idx at h
    split at h
    · rename_i e; injection h with h; subst h; exact ⟨by simp, by simpa using e⟩
    · split at h
      · rename_i k' e
        injection h with h; subst h
        obtain ⟨h1, h2⟩ := ih e
        exact ⟨by simp; omega, by simpa using h2⟩
      · cases h

theorem reS_ok0 {w : World} {ro ro' : Nat → Prop} {A : Asg} {σ : List Nat} (hr : ∀ b, ro b → ro' b) {s : SV} {v : Value} (h : SvOk0 w ro A s v) : SvOk0 w ro' (A.re σ) (reS σ s) v := by
  have hr' : ∀ b, ro b → ro' b ∧ w.heap[b]? = w.heap[b]? := fun b hb => ⟨hr b hb, rfl⟩
  have hη : ∀ {i k : Nat}, idx σ i = some k → k < (A.re σ).n ∧ (A.re σ).η k = A.η i := fun e => ⟨(idx_spec e).1, congrArg A.η (idx_spec e).2⟩
  cases s with
  | d t x => exact SvOk0.keep (A := A.re σ) (s := .d t x) hr' (Asg.le.refl (A.re σ)) h
  | bt b => exact h
  | os i =>
    simp only [reS]
    split
    · rename_i k e; exact ⟨(hη e).1, by rw [(hη e).2]; exact h.2⟩
    · trivial
  | pv t i q =>
    simp only [reS]
    split
    · rename_i k e
      obtain ⟨h1, h2⟩ := h
      exact ⟨(hη e).1, by rw [(hη e).2]; exact h2⟩
    · trivial
  | ea t i n q =>
    simp only [reS]
    split
    · rename_i k e
      obtain ⟨h1, h2⟩ := h
      exact ⟨(hη e).1, by rw [(hη e).2]; exact h2⟩
    · trivial
  | ra t x => exact SvOk0.keep (A := A.re σ) (s := .ra t x) hr' (Asg.le.refl (A.re σ)) h
  | pc i o =>
    simp only [reS]
    split
    · rename_i k e
      obtain ⟨h1, h2⟩ := h
      exact ⟨(hη e).1, by rw [(hη e).2]; exact h2⟩
    · trivial
  | nils => exact h
  | nilp => exact h
  | und => exact h
  | any => trivial
  | ag l => trivial
  | tp l => trivial

theorem reS_ok {w : World} {ro ro' : Nat → Prop} {A : Asg} {σ : List Nat} (hr : ∀ b, ro b → ro' b) {s : SV} {v : Value} (h : SvOk w ro A s v) : SvOk w ro' (A.re σ) (reS σ s) v := by
  have up : ∀ {s : SV}, (∀ l, s ≠ .ag l) → (∀ l, s ≠ .tp l) → SvOk0 w ro' (A.re σ) s v → SvOk w ro' (A.re σ) s v := by
    intro s h1 h2 h
    cases s with
    | ag l => exact absurd rfl (h1 l)
    | tp l => exact absurd rfl (h2 l)
    | _ => exact h
  have nag : ∀ s : SV, (∀ l, reS σ s ≠ .ag l) ∧ (∀ l, reS σ s ≠ .tp l) := by
    intro s
    cases s <;> simp only [reS] <;> (try split) <;> simp
  cases s with
  | ag l => trivial
  | tp l => trivial
  | d t x => exact up (nag _).1 (nag _).2 (reS_ok0 (s := .d t x) hr h)
  | bt b => exact up (nag _).1 (nag _).2 (reS_ok0 (s := .bt b) hr h)
  | os i => exact up (nag _).1 (nag _).2 (reS_ok0 (s := .os i) hr h)
  | pv t i q => exact up (nag _).1 (nag _).2 (reS_ok0 (s := .pv t i q) hr h)
  | ea t i k q => exact up (nag _).1 (nag _).2 (reS_ok0 (s := .ea t i k q) hr h)
  | ra t x => exact up (nag _).1 (nag _).2 (reS_ok0 (s := .ra t x) hr h)
  | pc i o => exact up (nag _).1 (nag _).2 (reS_ok0 (s := .pc i o) hr h)
  | nils => exact h
  | nilp => exact h
  | und => exact h
  | any => trivial

theorem reO_live {σ : List Nat} {o : Ob} : (reO σ o).live = o.live := by cases o <;> rfl

theorem Inv.re {w0 : World} {M R0 : Nat → Prop} {A : Asg} {st : St} {a : Act} {w : World} (I : Inv w0 M R0 A st a w) {σ : List Nat} (hσ : σ.Nodup) : Inv w0 M R0 (A.re σ) (st.re σ) a w := by
  have hob : ∀ (k : Nat) o, (st.re σ).ob[k]? = some o → ∃ i, σ[k]? = some i ∧ σ.getD k 0 = i ∧ o = reO σ (st.ob.getD i .dead) := by
    intro k o ho
    simp only [St.re, List.getElem?_map] at ho
    obtain ⟨i, h1, h2⟩ := Option.map_eq_some_iff.1 ho
    exact ⟨i, h1, by rw [List.getD_eq_getElem?_getD, h1]; rfl, h2.symm⟩
  have hlv : ∀ (i : Nat), (st.ob.getD i .dead).live = true → st.ob[i]? = some (st.ob.getD i .dead) := by
    intro i h
    rw [List.getD_eq_getElem?_getD] at h ⊢
    cases hq : st.ob[i]? with
    | none => rw [hq] at h; cases h
    | some o => rfl
  have hr : ∀ b, Ro R0 w0.heap.size A st.ob w b → Ro R0 w0.heap.size (A.re σ) (st.re σ).ob w b := by
    intro b ⟨h1, h2, h3⟩
    refine ⟨h1, h2, fun k o ho hl hf => ?_⟩
    obtain ⟨i, k1, k2, rfl⟩ := hob k o ho
    rw [reO_live] at hl
    have hf' : A.F (σ.getD k 0) b := hf
    rw [k2] at hf'
    exact h3 i _ (hlv i hl) hl hf'
  refine ⟨I.fr, I.defers, by simp [Asg.re, St.re], by rw [I.len]; simp [St.re], fun j sv hj => ?_, fun k o ho => ?_, fun k1 k2 o o' b hi hj hl hl' hb hb' => ?_, fun k o b hi hl hb => ?_⟩
  · simp only [St.re, List.getElem?_map] at hj
    obtain ⟨s, h1, rfl⟩ := Option.map_eq_some_iff.1 hj
    exact reS_ok hr (I.tm j s h1)
  · obtain ⟨i, k1, k2, rfl⟩ := hob k o ho
    cases hd : (st.ob.getD i .dead).live with
    | false =>
      have : st.ob.getD i .dead = .dead := by
        cases hx : st.ob.getD i .dead <;> first | rfl | (rw [hx] at hd; cases hd)
      rw [this]; trivial
    | true =>
      have hη : (A.re σ).η k = A.η i := congrArg A.η k2
      have hF : (A.re σ).F k = A.F i := congrArg A.F k2
      have h := I.ob i _ (hlv i hd)
      generalize st.ob.getD i .dead = o0 at h
      cases o0 with
      | var e t x =>
        obtain ⟨g, cs, e1, hf, hh, hok⟩ := h
        exact ⟨g, cs, hη.trans e1, by rw [hF]; exact hf, hh, ok_mono hr (fun _ _ => rfl) hok⟩
      | row e t xs =>
        obtain ⟨css, hok, hown, hf⟩ := h
        exact ⟨css, hok.mono fun x u hu => ⟨hu.1, ok_mono hr (fun _ _ => rfl) hu.2⟩, by rw [hη]; exact hown, by rw [hη, hF]; exact hf⟩
      | cells e l =>
        obtain ⟨g, cs, e1, hf, hh, hok⟩ := h
        refine ⟨g, cs, hη.trans e1, by rw [hF]; exact hf, hh, by simpa using hok.1, fun j sv v h1 h2 => ?_⟩
        rw [List.getElem?_map] at h1
        obtain ⟨s, k2, rfl⟩ := Option.map_eq_some_iff.1 h1
        exact reS_ok0 hr (hok.2 j s v k2 h2)
      | abs T m =>
        have := T.loc (ro' := Ro R0 w0.heap.size (A.re σ) (st.re σ).ob w) h (fun _ _ => rfl) (fun b hb => ⟨hr b hb, rfl⟩)
        show T.rep w _ ((A.re σ).η k) ((A.re σ).F k) m
        rw [hη, hF]; exact this
      | dead => trivial
  · obtain ⟨i, a1, a2, rfl⟩ := hob k1 o hi
    obtain ⟨j, b1, b2, rfl⟩ := hob k2 o' hj
    rw [reO_live] at hl hl'
    have hb1 : A.F (σ.getD k1 0) b := hb
    have hb2 : A.F (σ.getD k2 0) b := hb'
    rw [a2] at hb1; rw [b2] at hb2
    have := I.dj i j _ _ b (hlv i hl) (hlv j hl') hl hl' hb1 hb2
    subst this
    have e1 := List.getElem?_eq_some_iff.1 a1
    have e2 := List.getElem?_eq_some_iff.1 b1
    rcases Nat.lt_trichotomy k1 k2 with hlt | he | hlt
    · exact absurd (e1.2.trans e2.2.symm) (List.pairwise_iff_getElem.1 hσ k1 k2 e1.1 e2.1 hlt)
    · exact he
    · exact absurd (e2.2.trans e1.2.symm) (List.pairwise_iff_getElem.1 hσ k2 k1 e2.1 e1.1 hlt)
  · obtain ⟨i, a1, a2, rfl⟩ := hob k o hi
    rw [reO_live] at hl
    have hb1 : A.F (σ.getD k 0) b := hb
    rw [a2] at hb1
    exact I.fp i _ b (hlv i hl) hl hb1

def St.leA (st st' : St) : Prop := leTm st.tm st'.tm ∧ leOb st.ob st'.ob
def permT : List Nat → List SV → List SV → List Nat
  | σ, s :: l, s' :: l' => match s, s' with
    | .os i, .os k => permT (σ.set k i) l l'
    | _, _ => permT σ l l'
  | σ, _, _ => σ
/-- Which object is which: those that stand in the same slots. -/
def St.perm (st st' : St) : List Nat := permT (List.range st'.ob.length) st.tm st'.tm
def nodupB : List Nat → Bool
  | [] => true
  | x :: r => !r.contains x && nodupB r
theorem nodupB_ok : ∀ {l : List Nat}, nodupB l = true → l.Nodup
  | [], _ => List.nodup_nil
  | x :: r, h => by
    simp only [nodupB, Bool.and_eq_true, Bool.not_eq_true', List.contains_eq_mem, decide_eq_false_iff_not] at h
    exact List.nodup_cons.2 ⟨h.1, nodupB_ok h.2⟩
/-- What 'st' says is no less than what 'st'' does, which has no more objects. -/
def St.le (st st' : St) : Prop :=
  match nodupB (st.perm st') with
  | true => (st.re (st.perm st')).leA st'
  | false => False

theorem leTm_ok : ∀ {l l' : List SV}, leTm l l' → l.length = l'.length ∧ ∀ (j : Nat) s', l'[j]? = some s' → ∃ s, l[j]? = some s ∧ leS s s'
  | [], [], _ => ⟨rfl, fun j s' h => by simp at h⟩
  | s :: l, s' :: l', h => by
    have key : leS s s' ∧ leTm l l' := by
      unfold leTm at h
      split at h
      · exact ⟨by cases s <;> trivial, h⟩
      · exact h
    obtain ⟨h1, h2⟩ := key
    obtain ⟨k1, k2⟩ := leTm_ok h2
    refine ⟨by simp [k1], fun j x hx => ?_⟩
    cases j with
    | zero => simp at hx; subst hx; exact ⟨s, rfl, h1⟩
    | succ j => simpa using k2 j x (by simpa using hx)
  | [], _ :: _, h => h.elim
  | _ :: _, [], h => h.elim

theorem leOb_ok : ∀ {l l' : List Ob}, leOb l l' → l.length = l'.length ∧ ∀ (j : Nat) s', l'[j]? = some s' → ∃ s, l[j]? = some s ∧ leO s s'
  | [], [], _ => ⟨rfl, fun j s' h => by simp at h⟩
  | s :: l, s' :: l', h => by
    have key : leO s s' ∧ leOb l l' := by
      unfold leOb at h
      split at h
      · exact ⟨by cases s <;> trivial, h⟩
      · exact h
    obtain ⟨h1, h2⟩ := key
    obtain ⟨k1, k2⟩ := leOb_ok h2
    refine ⟨by simp [k1], fun j x hx => ?_⟩
    cases j with
    | zero => simp at hx; subst hx; exact ⟨s, rfl, h1⟩
    | succ j => simpa using k2 j x (by simpa using hx)
  | [], _ :: _, h => h.elim
  | _ :: _, [], h => h.elim

theorem leO_ok {w : World} {ro : Nat → Prop} {A : Asg} {i : Nat} {o o' : Ob} (h : leO o o') (ho : ObOk w ro A i o) : ObOk w ro A i o' ∧ (o'.live = true → o.live = true) := by
  unfold leO at h
  split at h
  · exact ⟨trivial, fun h => by simp [Ob.live] at h⟩
  · split at h
    · rename_i ht; subst ht
      obtain ⟨rfl, h2⟩ := h
      simp only at h2; subst h2
      exact ⟨ho, fun _ => rfl⟩
    · exact h.elim
  · split at h
    · rename_i ht; subst ht
      obtain ⟨rfl, h2⟩ := h
      simp only at h2; subst h2
      exact ⟨ho, fun _ => rfl⟩
    · exact h.elim
  · exact h.elim

theorem Inv.leA {w0 : World} {M R0 : Nat → Prop} {A : Asg} {st st' : St} {a : Act} {w : World} (I : Inv w0 M R0 A st a w) (h : st.leA st') : Inv w0 M R0 A st' a w := by
  obtain ⟨t1, t2⟩ := leTm_ok h.1
  obtain ⟨o1, o2⟩ := leOb_ok h.2
  have hro : ∀ b, Ro R0 w0.heap.size A st.ob w b → Ro R0 w0.heap.size A st'.ob w b ∧ w.heap[b]? = w.heap[b]? := by
    intro b ⟨h1, h2, h3⟩
    refine ⟨⟨h1, h2, fun i o ho hl hf => ?_⟩, rfl⟩
    obtain ⟨o0, k1, k2⟩ := o2 i o ho
    exact h3 i o0 k1 ((leO_ok k2 (I.ob i o0 k1)).2 hl) hf
  refine ⟨I.fr, I.defers, I.num.trans o1, I.len.trans t1, fun j sv hj => ?_, fun i o ho => ?_, fun i j o o' b hi hj hl hl' => ?_, fun i o b hi hl => ?_⟩
  · obtain ⟨s, k1, k2⟩ := t2 j sv hj
    exact leS_ok k2 ((I.tm j s k1).keep hro (Asg.le.refl A))
  · obtain ⟨o0, k1, k2⟩ := o2 i o ho
    have hi : i < A.n := by rw [I.num]; exact (List.getElem?_eq_some_iff.1 k1).1
    exact (leO_ok k2 ((I.ob i o0 k1).keep hro (Asg.le.refl A) hi (fun _ => Iff.rfl) (fun _ _ => rfl))).1
  · obtain ⟨o0, k1, k2⟩ := o2 i o hi
    obtain ⟨o0', m1, m2⟩ := o2 j o' hj
    exact I.dj i j o0 o0' b k1 m1 ((leO_ok k2 (I.ob i o0 k1)).2 hl) ((leO_ok m2 (I.ob j o0' m1)).2 hl')
  · obtain ⟨o0, k1, k2⟩ := o2 i o hi
    exact I.fp i o0 b k1 ((leO_ok k2 (I.ob i o0 k1)).2 hl)

theorem Inv.le {w0 : World} {M R0 : Nat → Prop} {A : Asg} {st st' : St} {a : Act} {w : World} (I : Inv w0 M R0 A st a w) (h : st.le st') : ∃ A', Inv w0 M R0 A' st' a w := by
  unfold St.le at h
  split at h
  · rename_i hn
    exact ⟨_, (I.re (nodupB_ok hn)).leA h⟩
  · exact h.elim

/-! Loops. -/

/-- What holds at a loop's head: 'nr' nil slices that are to be rows of the call's own; 'st' the state there, of the state ahead of the loop and of ghosts; 'ok' of the ghosts; 'mu' falls. -/
structure LoopAnn where
  α : Type
  nr : List (Nat × TypeId × Ty)
  st : St → α → St
  ok : St → α → Prop
  mu : α → Nat

def rowNil (st : St) : List (Nat × TypeId × Ty) → St
  | [] => st
  | (j, e, t) :: r => match st.tm.getD j .any with
    | .nils => rowNil ((st.push (.row e t [])).put (some j) (.os st.ob.length)) r
    | _ => rowNil st r

theorem rowNil_ok {w0 : World} {M R0 : Nat → Prop} : ∀ {l : List (Nat × TypeId × Ty)} {A : Asg} {st : St} {a : Act} {w : World}, Inv w0 M R0 A st a w → ∃ A', Inv w0 M R0 A' (rowNil st l) a w := by
  intro l
  induction l with
  | nil => intro A st a w I; exact ⟨A, I⟩
  | cons x r ih =>
    intro A st a w I
    obtain ⟨j, e, t⟩ := x
    unfold rowNil
    split
    · rename_i hj
      have hlt : j < st.tm.length := by
        rcases Nat.lt_or_ge j st.tm.length with h | h
        · exact h
        · rw [List.getD_eq_getElem?_getD, List.getElem?_eq_none h] at hj; cases hj
      have hv : a.tmps.getD j undef = .slice none 0 0 := by
        rw [List.getD_eq_getElem?_getD, List.getElem?_eq_getElem hlt] at hj
        have hj' : st.tm[j] = .nils := hj
        have := I.tm j st.tm[j] (List.getElem?_eq_getElem hlt)
        rw [hj'] at this
        exact this
      obtain ⟨A', hI⟩ := I.newRow none (e := e) (t := t) (xs := []) (v := .slice none 0 0) (css := []) (Same.refl w) (fun _ _ _ => rfl) (fun b hb => by simp [Value.ownBlock] at hb) ⟨rfl, fun i x u hx => by simp at hx⟩ (World.ownsRow_nil w 0 e t.size) (some j)
      have hput : a.put (some j) (.slice none 0 0) = a := by
        have hlt' : j < a.tmps.size := by rw [I.len]; exact hlt
        have hv' : a.tmps[j] = .slice none 0 0 := by simpa [hlt'] using hv
        simp only [Act.put]
        congr 1
        apply Array.ext_getElem?
        intro i
        rw [Array.getElem?_setIfInBounds]
        split
        · rename_i hi; subst hi; simp [hlt', hv']
        · rfl
      rw [hput] at hI
      exact ih hI
    · exact ih I

def firstReg : Code → Option Nat
  | .region id _ _ => some id
  | .seq a b => match firstReg a with
    | some i => some i
    | none => firstReg b
  | .cond _ a b => match firstReg a with
    | some i => some i
    | none => firstReg b
  | .block _ b => firstReg b
  | .loop b => firstReg b
  | _ => none

abbrev Ann := List (Nat × LoopAnn)

/-- A state with some slots said anew; with some slots' values alone. -/
def St.at (st : St) (l : List (Nat × SV)) : St := l.foldl (fun s x => s.put (some x.1) x.2) st
def St.only (st : St) (l : List Nat) : St := st.mask fun j => l.contains j
def an1 (α : Type) (r : Nat) (st : St → α → St) (ok : α → Prop) (mu : α → Nat) : Ann := [(r, ⟨α, [], st, fun _ => ok, mu⟩)]
def loopAt (r : Nat) (α : Type) (nr : List (Nat × TypeId × Ty)) (st : St → α → St) (ok : St → α → Prop) (mu : α → Nat) : Nat × LoopAnn := (r, ⟨α, nr, st, ok, mu⟩)

def Ann.look : Ann → Option Nat → Option LoopAnn
  | [], _ => none
  | x :: r, i => match i with
    | some j => if x.1 = j then some x.2 else Ann.look r i
    | none => none

/-- Do branches of guards meet again? -/
def Ann.joins (an : Ann) : Bool :=
  match an.look (some 3000000) with
  | some _ => true
  | none => false
/-- An integer that a slot holds. -/
def St.i (st : St) (j : Nat) : Int :=
  match st.tm.getD j .any with
  | .d (.int _) n => n
  | _ => 0
def St.b (st : St) (j : Nat) : Bool :=
  match st.tm.getD j .any with
  | .d .bool b => b
  | .bt b => b
  | _ => false
/-- In an annotation: branches meet again. -/
def joinAll : Nat × LoopAnn := (3000000, ⟨Unit, [], fun st _ => st, fun _ _ => True, fun _ => 0⟩)
/-- In an annotation: what holds ahead of region 'r', whichever way one came to it. -/
def meetAt (r : Nat) (α : Type) (nr : List (Nat × TypeId × Ty)) (st : St → α → St) (ok : St → α → Prop) : Nat × LoopAnn := (1000000 + r, ⟨α, nr, st, ok, fun _ => 0⟩)
/-- In an annotation: ahead of region 'r' the rows in some slots become data. -/
def freezeAt (r : Nat) (l : List Nat) : Nat × LoopAnn := (4000000 + r, ⟨Unit, l.map fun j => (j, 0, .un), fun st _ => st, fun _ _ => True, fun _ => 0⟩)
def Ann.frz (an : Ann) (id : Nat) (st : St) : St :=
  match an.look (some (4000000 + id)) with
  | some L => st.frz (st.ids (L.nr.map fun x => x.1))
  | none => st
def Ann.meet (an : Ann) (b : Code) : Option LoopAnn :=
  match firstReg b with
  | some r => an.look (some (1000000 + r))
  | none => none

structure Kn where
  n : St → Prop
  r : St → Prop
  x : Nat → St → Prop

def xc (X : Cx) (an : Ann) : Code → St → Kn → Prop
  | .skip, st, K => K.n st
  | .region id ops draw, st, K => match an.joins with
    | true => regJ X ops.toList draw (an.frz id st) K.n
    | false => reg X ops.toList draw (an.frz id st) K.n
  | .seq a b, st, K => match an.meet b with
    | none => xc X an a st ⟨fun st' => xc X an b st' K, K.r, K.x⟩
    | some L => xc X an a st ⟨fun st' => ∃ x, L.ok st x ∧ (rowNil st' L.nr).le (L.st st x), K.r, K.x⟩ ∧ ∀ x, L.ok st x → xc X an b (L.st st x) K
  | .cond c a b, st, K => match st.ev X.E c with
    | .bt true => xc X an a st K
    | .bt false => xc X an b st K
    | .d .bool v => (v = true → xc X an a st K) ∧ (v = false → xc X an b st K)
    | _ => False
  | .block id b, st, K => xc X an b st ⟨K.n, K.r, fun i st' => if i = id then K.n st' else K.x i st'⟩
  | .loop b, st, K => match an.look (firstReg b) with
    | some L => (∃ x, L.ok (rowNil st L.nr) x ∧ (rowNil st L.nr).le (L.st (rowNil st L.nr) x)) ∧
        ∀ x, L.ok (rowNil st L.nr) x → xc X an b (L.st (rowNil st L.nr) x) ⟨fun st' => ∃ x', L.ok (rowNil st L.nr) x' ∧ L.mu x' < L.mu x ∧ st'.le (L.st (rowNil st L.nr) x'), K.r, K.x⟩
    | none => False
  | .exit id, st, K => K.x id st
  | .ret, st, K => K.r st
  | _, _, _ => False

def codeOk (X : Cx) : Code → Bool
  | .skip => true
  | .region _ ops draw => regOk X ops draw
  | .seq a b => codeOk X a && codeOk X b
  | .cond _ a b => codeOk X a && codeOk X b
  | .block _ b => codeOk X b
  | .loop b => codeOk X b
  | .exit _ => true
  | .ret => true
  | _ => false

theorem exists_least {p : Nat → Prop} (h : ∃ n, p n) : ∃ n, p n ∧ ∀ m, p m → n ≤ m := by
  obtain ⟨n, hn⟩ := h
  induction n using Nat.strongRecOn with
  | _ n ih =>
    by_cases hc : ∃ m, m < n ∧ p m
    · obtain ⟨m, hm, hp⟩ := hc
      exact ih m hm hp
    · refine ⟨n, hn, fun m hm => ?_⟩
      rcases Nat.lt_or_ge m n with h | h
      · exact absurd ⟨m, h, hm⟩ hc
      · exact h

noncomputable def least (p : Nat → Prop) : Nat := @dite _ (∃ n, p n) (Classical.propDecidable _) (fun h => Classical.choose (exists_least h)) (fun _ => 0)

theorem least_spec {p : Nat → Prop} (h : ∃ n, p n) : p (least p) ∧ ∀ m, p m → least p ≤ m := by
  unfold least
  rw [dif_pos h]
  exact Classical.choose_spec (exists_least h)

theorem xc_ok {P : Program} {X : Cx} (hX : CxOk P X) {an : Ann} {w0 : World} {M R0 : Nat → Prop} (hM : ∀ b, ¬ M b) : ∀ {c : Code}, codeOk X c = true → ∀ {A : Asg} {st : St} {a : Act} {w : World} {K : Kn} {Q : Exit → Act → World → Prop},
    Inv w0 M R0 A st a w → xc X an c st K →
    (∀ A' st' a' w', K.n st' → Inv w0 M R0 A' st' a' w' → Q .normal a' w') → (∀ A' st' a' w', K.r st' → Inv w0 M R0 A' st' a' w' → Q .ret a' w') →
    (∀ i A' st' a' w', K.x i st' → Inv w0 M R0 A' st' a' w' → Q (.exit i) a' w') → c.wp P Q a w := by
  intro c
  induction c with
  | skip => intro _ A st a w K Q I h hn _ _; exact wp_skip (hn _ _ _ _ h I)
  | region id ops draw =>
    intro hB A st a w K Q I h hn _ _
    unfold xc at h
    have I' : Inv w0 M R0 A (an.frz id st) a w := by
      unfold Ann.frz
      split
      · exact I.frz hM _
      · exact I
    split at h
    · exact regJ_ok hX I' hB h hn
    · exact reg_ok hX I' hB h hn
  | seq x y ihx ihy =>
    intro hB A st a w K Q I h hn hr hx
    simp only [codeOk, Bool.and_eq_true] at hB
    unfold xc at h
    split at h
    · exact wp_seq (ihx hB.1 I h (fun A' st' a' w' hk I' => ihy hB.2 I' hk hn hr hx) (fun A' st' a' w' hk I' => hr _ _ _ _ hk I') (fun i A' st' a' w' hk I' => hx i _ _ _ _ hk I'))
    · obtain ⟨h1, h2⟩ := h
      refine wp_seq (ihx hB.1 I h1 (fun A' st' a' w' hk I' => ?_) (fun A' st' a' w' hk I' => hr _ _ _ _ hk I') (fun i A' st' a' w' hk I' => hx i _ _ _ _ hk I'))
      obtain ⟨y, hy, hle⟩ := hk
      obtain ⟨A1, I1⟩ := rowNil_ok I'
      obtain ⟨A2, I2⟩ := I1.le hle
      exact ihy hB.2 I2 (h2 y hy) hn hr hx
  | cond c x y ihx ihy =>
    intro hB A st a w K Q I h hn hr hx
    simp only [codeOk, Bool.and_eq_true] at hB
    unfold xc at h
    have hc := I.ev (E := X.E) c
    split at h
    · rename_i hb; rw [hb] at hc
      exact wp_cond_true hc (ihx hB.1 I h hn hr hx)
    · rename_i hb; rw [hb] at hc
      exact wp_cond_false hc (ihy hB.2 I h hn hr hx)
    · rename_i b hb; rw [hb] at hc
      have hc0 : [a.eval c] = [Value.bool b] := hc
      injection hc0 with hc'
      exact wp_cond_split hc' (fun ht => ihx hB.1 I (h.1 ht) hn hr hx) (fun hf => ihy hB.2 I (h.2 hf) hn hr hx)
    · exact h.elim
  | block id b ih =>
    intro hB A st a w K Q I h hn hr hx
    refine wp_block (ih hB I h (fun A' st' a' w' hk I' => hn _ _ _ _ hk I') (fun A' st' a' w' hk I' => hr _ _ _ _ hk I') (fun i A' st' a' w' hk I' => ?_))
    simp only at hk
    show (if i = id then Q .normal a' w' else Q (.exit i) a' w')
    split
    · rename_i hi; rw [if_pos hi] at hk; exact hn _ _ _ _ hk I'
    · rename_i hi; rw [if_neg hi] at hk; exact hx i _ _ _ _ hk I'
  | loop b ih =>
    intro hB A st a w K Q I h hn hr hx
    unfold xc at h
    split at h
    · rename_i L hL
      obtain ⟨⟨x0, hx0, hle⟩, hround⟩ := h
      obtain ⟨A1, I1⟩ := rowNil_ok (l := L.nr) I
      obtain ⟨A1', I2⟩ := I1.le hle
      clear hle I1
      generalize hs : rowNil st L.nr = s at *
      -- the least measure at which the invariant holds
      let J : Act → World → Nat → Prop := fun a w n => ∃ x A', L.ok s x ∧ L.mu x = n ∧ Inv w0 M R0 A' (L.st s x) a w
      let μ : Act → World → Nat := fun a w => least (J a w)
      have hμ : ∀ a w, (∃ n, J a w n) → J a w (μ a w) := fun a w h => (least_spec h).1
      have hμle : ∀ a w n, J a w n → μ a w ≤ n := fun a w n h => (least_spec ⟨n, h⟩).2 n h
      refine wp_loop (fun a w => ∃ n, J a w n) μ ⟨_, x0, A1', hx0, rfl, I2⟩ fun a w hJ => ?_
      obtain ⟨x, A', hok, hm, I'⟩ := hμ a w hJ
      refine ih hB I' (hround x hok) (fun A2 st' a' w' hk I2 => ?_) (fun A' st' a' w' hk I' => hr _ _ _ _ hk I') (fun i A' st' a' w' hk I' => hx i _ _ _ _ hk I')
      obtain ⟨x', hok', hlt, hle⟩ := hk
      obtain ⟨A3, I3⟩ := I2.le hle
      have hJ' : J a' w' (L.mu x') := ⟨x', A3, hok', rfl, I3⟩
      exact ⟨⟨_, hJ'⟩, Nat.lt_of_le_of_lt (hμle _ _ _ hJ') (hm ▸ hlt)⟩
    · exact h.elim
  | exit id => intro _ A st a w K Q I h _ _ hx; exact wp_exit (hx id _ _ _ _ h I)
  | ret => intro _ A st a w K Q I h _ hr _; exact wp_ret (hr _ _ _ _ h I)
  | _ => intro hB; simp [codeOk] at hB
end Go.Vc
