/- VC framework, part HA: objects named anew. -/
import Derived.Test.YtjgdpblaghhfhaaDoorVcH
namespace Go.Vc
open Go.RowKit

def idx : List Nat → Nat → Option Nat
  | [], _ => none
  | x :: r, i => if x = i then some 0 else match idx r i with
    | some k => some (k + 1)
    | none => none
theorem idx_spec : ∀ {σ : List Nat} {i k : Nat}, idx σ i = some k → k < σ.length ∧ σ.getD k 0 = i := by
  intro σ
  induction σ with
  | nil => intro i k h; cases h
  | cons x r ih =>
    intro i k h
    unfold idx at h
    split at h
    · rename_i e; injection h with h; subst h; exact ⟨by simp, by simpa using e⟩
    · split at h
      · rename_i k' e
        injection h with h; subst h
        obtain ⟨h1, h2⟩ := ih e
        exact ⟨by simp; omega, by simpa using h2⟩
      · cases h

def nodupB : List Nat → Bool
  | [] => true
  | x :: r => !r.contains x && nodupB r
theorem nodupB_ok : ∀ {l : List Nat}, nodupB l = true → l.Nodup
  | [], _ => List.nodup_nil
  | x :: r, h => by
    simp only [nodupB, Bool.and_eq_true, Bool.not_eq_true', List.contains_eq_mem, decide_eq_false_iff_not] at h
    exact List.nodup_cons.2 ⟨h.1, nodupB_ok h.2⟩

/-- Pieces said anew, each as wide as it was. -/
theorem Pcs.map {w : World} {ro ro' : Nat → Prop} {A A' : Asg} {f : SV → SV} {l : List SV} {cs : List Value} (h : Pcs w ro A l cs) (hone : (l.map f).all SV.one = true)
    (hf : ∀ s v, s.one = true → (f s).one = true → SvOk0 w ro A s v → SvOk0 w ro' A' (f s) v ∧ (f s).len = s.len ∧ ((f s).nd = true → s.nd = true)) : Pcs w ro' A' (l.map f) cs := by
  obtain ⟨css, h1, h2, h3⟩ := h
  refine ⟨css, h1, by simp [h2], fun j s u hj hu => ?_⟩
  rw [List.getElem?_map] at hj
  obtain ⟨s0, k1, rfl⟩ := Option.map_eq_some_iff.1 hj
  obtain ⟨m1, m2, v, m3, m4, m5⟩ := h3 j s0 u k1 hu
  have ho := List.all_eq_true.1 hone (f s0) (List.mem_map.2 ⟨s0, List.mem_of_getElem? k1, rfl⟩)
  obtain ⟨n1, n2, n3⟩ := hf s0 v m1 ho m4
  exact ⟨ho, by rw [m2, n2], v, m3, n1, fun hn => m5 (n3 hn)⟩


def Asg.re (A : Asg) (σ : List Nat) : Asg := { A with n := σ.length, η := fun k => A.η (σ.getD k 0), F := fun k => A.F (σ.getD k 0), κ := fun k => A.κ (σ.getD k 0) }

/-! Objects named anew: 'f' by handles, 'g' by the handles inside. -/

def mv (f g : Nat → Option Nat) : SV → SV
  | .os i => match f i with
    | some k => .os k
    | none => .any
  | .pv t i q => match f i with
    | some k => .pv t k q
    | none => .any
  | .ea t i n q => match f i with
    | some k => .ea t k n q
    | none => .any
  | .oc t i a => match f i with
    | some k => .oc t k a
    | none => .any
  | .ps i => match f i with
    | some k => .ps k
    | none => .any
  | .pf t i o q => match f i with
    | some k => .pf t k o q
    | none => .any
  | .tv i p => match g i with
    | some k => .tv k p
    | none => .any
  | .ta t i p n q => match g i with
    | some k => .ta t k p n q
    | none => .any
  | .ag _ => .any
  | .tp _ => .any
  | s => s

/-- Tuples and structs too. -/
def mvT (f g : Nat → Option Nat) : SV → SV
  | .tp l => .tp (l.map (mv f g))
  | .ag l => if (l.map (mv f g)).all SV.one = true then .ag (l.map (mv f g)) else .any
  | s => mv f g s

def mvO (f g : Nat → Option Nat) : Ob → Ob
  | .st e l => if (l.map (mv f g)).all SV.one = true then .st e (l.map (mv f g)) else .dead
  | .hol e e2 u xs k s => if (mv f g s).hs = true then .hol e e2 u xs k (mv f g s) else .dead
  | o => o

structure Mv (A A' : Asg) (f g : Nat → Option Nat) : Prop where
  η : ∀ i k, i < A.n → f i = some k → k < A'.n ∧ A'.η k = A.η i
  κ : ∀ i k, i < A.n → g i = some k → k < A'.n ∧ A'.κ k = A.κ i

theorem mv_ok0 [Dn] {w w' : World} {ro ro' : Nat → Prop} {A A' : Asg} {f g : Nat → Option Nat} (hm : Mv A A' f g) (hr : ∀ b, ro b → ro' b ∧ Kb w w' b) {s : SV} {v : Value} (h : SvOk0 w ro A s v) : SvOk0 w' ro' A' (mv f g s) v := by
  cases s with
  | d t x => exact okV_grow (fun b hb => (hr b hb).1) (fun a u hb => (hr _ hb).2 a u rfl) h
  | bt b => exact h
  | os i =>
    simp only [mv]
    split
    · rename_i k e; obtain ⟨h1, h2⟩ := h; exact ⟨(hm.η _ _ h1 e).1, by rw [(hm.η _ _ h1 e).2]; exact h2⟩
    · trivial
  | pv t i q =>
    simp only [mv]
    split
    · rename_i k e; obtain ⟨h1, h2⟩ := h; exact ⟨(hm.η _ _ h1 e).1, by rw [(hm.η _ _ h1 e).2]; exact h2⟩
    · trivial
  | ea t i n q =>
    simp only [mv]
    split
    · rename_i k e; obtain ⟨h1, h2⟩ := h; exact ⟨(hm.η _ _ h1 e).1, by rw [(hm.η _ _ h1 e).2]; exact h2⟩
    · trivial
  | oc t i a =>
    simp only [mv]
    split
    · rename_i k e; obtain ⟨h1, h2⟩ := h; exact ⟨(hm.η _ _ h1 e).1, by rw [(hm.η _ _ h1 e).2]; exact h2⟩
    · trivial
  | ra t x => exact SvOk0.keep (A := A') (s := .ra t x) hr (Asg.le.refl A') h
  | fs t x => exact SvOk0.keep (A := A') (s := .fs t x) hr (Asg.le.refl A') h
  | ps i =>
    simp only [mv]
    split
    · rename_i k e; obtain ⟨h1, h2⟩ := h; exact ⟨(hm.η _ _ h1 e).1, by rw [(hm.η _ _ h1 e).2]; exact h2⟩
    · trivial
  | pf t i o q =>
    simp only [mv]
    split
    · rename_i k e; obtain ⟨h1, h2⟩ := h; exact ⟨(hm.η _ _ h1 e).1, by rw [(hm.η _ _ h1 e).2]; exact h2⟩
    · trivial
  | tv i p =>
    simp only [mv]
    split
    · rename_i k e; obtain ⟨h1, h2⟩ := h; exact ⟨(hm.κ _ _ h1 e).1, by rw [(hm.κ _ _ h1 e).2]; exact h2⟩
    · trivial
  | ta t i p n q =>
    simp only [mv]
    split
    · rename_i k e; obtain ⟨h1, h2⟩ := h; exact ⟨(hm.κ _ _ h1 e).1, by rw [(hm.κ _ _ h1 e).2]; exact h2⟩
    · trivial
  | nils => exact h
  | nilp => exact h
  | und => exact h
  | any => trivial
  | ag l => trivial
  | tp l => trivial

theorem mv_flat (f g : Nat → Option Nat) (s : SV) : (∀ l, mv f g s ≠ .ag l) ∧ (∀ l, mv f g s ≠ .tp l) := by
  cases s <;> simp only [mv] <;> (try split) <;> simp

theorem sv_up {w : World} {ro : Nat → Prop} {A : Asg} {s : SV} {v : Value} (h1 : ∀ l, s ≠ .ag l) (h2 : ∀ l, s ≠ .tp l) (h : SvOk0 w ro A s v) : SvOk w ro A s v := by
  cases s with
  | ag l => exact absurd rfl (h1 l)
  | tp l => exact absurd rfl (h2 l)
  | _ => exact h
theorem sv_up1 {w : World} {ro : Nat → Prop} {A : Asg} {s : SV} {v : Value} (h1 : ∀ l, s ≠ .ag l) (h : SvOk0 w ro A s v) : SvOk1 w ro A s v := by
  cases s with
  | ag l => exact absurd rfl (h1 l)
  | _ => exact h

theorem mv_len {f g : Nat → Option Nat} {s : SV} (h : s.one = true) (_ : (mv f g s).one = true) : (mv f g s).len = s.len ∧ ((mv f g s).nd = true → s.nd = true) := by
  cases s with
  | d t x => exact ⟨rfl, fun h => h⟩
  | os i => simp only [mv]; split <;> exact ⟨rfl, fun _ => rfl⟩
  | pv t i q => simp only [mv]; split <;> exact ⟨rfl, fun _ => rfl⟩
  | ps i => simp only [mv]; split <;> exact ⟨rfl, fun _ => rfl⟩
  | pf t i o q => simp only [mv]; split <;> exact ⟨rfl, fun _ => rfl⟩
  | bt b => exact ⟨rfl, fun _ => rfl⟩
  | nils => exact ⟨rfl, fun _ => rfl⟩
  | nilp => exact ⟨rfl, fun _ => rfl⟩
  | _ => simp [SV.one] at h

theorem Pcs.move [Dn] {w w' : World} {ro ro' : Nat → Prop} {A A' : Asg} {f g : Nat → Option Nat} (hm : Mv A A' f g) (hr : ∀ b, ro b → ro' b ∧ Kb w w' b) {l : List SV} {cs : List Value} (h : Pcs w ro A l cs) (hone : (l.map (mv f g)).all SV.one = true) : Pcs w' ro' A' (l.map (mv f g)) cs := by
  obtain ⟨css, hc, hl, hok⟩ := h
  refine ⟨css, hc, by simpa using hl, fun j s u h1 h2 => ?_⟩
  rw [List.getElem?_map] at h1
  obtain ⟨s0, h3, rfl⟩ := Option.map_eq_some_iff.1 h1
  have ho : (mv f g s0).one = true := List.all_eq_true.1 hone _ (List.mem_map.2 ⟨s0, List.mem_of_getElem? h3, rfl⟩)
  obtain ⟨k1, k2, v, k3, k4, k5⟩ := hok j s0 u h3 h2
  exact ⟨ho, by rw [k2, (mv_len k1 ho).1], v, k3, mv_ok0 hm hr k4, fun hn => k5 ((mv_len k1 ho).2 hn)⟩

theorem mvT_ok [Dn] {w w' : World} {ro ro' : Nat → Prop} {A A' : Asg} {f g : Nat → Option Nat} (hm : Mv A A' f g) (hr : ∀ b, ro b → ro' b ∧ Kb w w' b) {s : SV} {v : Value} (h : SvOk w ro A s v) : SvOk w' ro' A' (mvT f g s) v := by
  cases s with
  | tp l =>
    obtain ⟨vs, e, h1, h2⟩ := h
    refine ⟨vs, e, by simpa using h1, fun j s u hj hu => ?_⟩
    rw [List.getElem?_map] at hj
    obtain ⟨s0, h3, rfl⟩ := Option.map_eq_some_iff.1 hj
    have h4 := h2 j s0 u h3 hu
    cases s0 with
    | ag l' => trivial
    | _ => exact sv_up1 (mv_flat f g _).1 (mv_ok0 hm hr h4)
  | ag l =>
    obtain ⟨vs, e, h1⟩ := h
    simp only [mvT]
    split
    · rename_i hone; exact ⟨vs, e, h1.move hm hr hone⟩
    · trivial
  | d t x => exact sv_up (s := mv f g (.d t x)) (mv_flat f g _).1 (mv_flat f g _).2 (mv_ok0 (s := .d t x) hm hr h)
  | bt b => exact h
  | os i => exact sv_up (s := mv f g (.os i)) (mv_flat f g _).1 (mv_flat f g _).2 (mv_ok0 (s := .os i) hm hr h)
  | pv t i q => exact sv_up (s := mv f g (.pv t i q)) (mv_flat f g _).1 (mv_flat f g _).2 (mv_ok0 (s := .pv t i q) hm hr h)
  | ea t i k q => exact sv_up (s := mv f g (.ea t i k q)) (mv_flat f g _).1 (mv_flat f g _).2 (mv_ok0 (s := .ea t i k q) hm hr h)
  | oc t i a => exact sv_up (s := mv f g (.oc t i a)) (mv_flat f g _).1 (mv_flat f g _).2 (mv_ok0 (s := .oc t i a) hm hr h)
  | ra t x => exact sv_up (s := mv f g (.ra t x)) (mv_flat f g _).1 (mv_flat f g _).2 (mv_ok0 (s := .ra t x) hm hr h)
  | fs t x => exact sv_up (s := mv f g (.fs t x)) (mv_flat f g _).1 (mv_flat f g _).2 (mv_ok0 (s := .fs t x) hm hr h)
  | ps i => exact sv_up (s := mv f g (.ps i)) (mv_flat f g _).1 (mv_flat f g _).2 (mv_ok0 (s := .ps i) hm hr h)
  | pf t i o q => exact sv_up (s := mv f g (.pf t i o q)) (mv_flat f g _).1 (mv_flat f g _).2 (mv_ok0 (s := .pf t i o q) hm hr h)
  | tv i p => exact sv_up (s := mv f g (.tv i p)) (mv_flat f g _).1 (mv_flat f g _).2 (mv_ok0 (s := .tv i p) hm hr h)
  | ta t i p k q => exact sv_up (s := mv f g (.ta t i p k q)) (mv_flat f g _).1 (mv_flat f g _).2 (mv_ok0 (s := .ta t i p k q) hm hr h)
  | nils => exact h
  | nilp => exact h
  | und => exact h
  | any => trivial

theorem mvO_live {f g : Nat → Option Nat} {o : Ob} (h : (mvO f g o).live = true) : o.live = true := by
  cases o with
  | st e l => rfl
  | hol e e2 u xs k s => rfl
  | _ => exact h

theorem ObOk.move [Dn] {w w' : World} {ro ro' : Nat → Prop} {A A' : Asg} {f g : Nat → Option Nat} (hm : Mv A A' f g) (hr : ∀ b, ro b → ro' b ∧ Kb w w' b) {i k : Nat} (hη : A'.η k = A.η i) (hκ : A'.κ k = A.κ i) (hF : A'.F k = A.F i)
    {o : Ob} (hw : ∀ b, A.F i b → Cb w w' b) (hmp : o.isMp = true → ∀ b, A.F i b → w'.heap[b]? = w.heap[b]?) (h : ObOk w ro A i o) : ObOk w' ro' A' k (mvO f g o) := by
  cases o with
  | var e t x =>
    obtain ⟨g, cs, e1, hf, hh, hok⟩ := h
    exact ⟨g, cs, hη.trans e1, by rw [hF]; exact hf, hw g hf _ _ _ hh, ok_grow (fun b hb => (hr b hb).1) (fun a u hb => (hr _ hb).2 a u rfl) hok⟩
  | row e t xs =>
    obtain ⟨css, hok, hown, hf⟩ := h
    refine ⟨css, hok.mono fun x u hu => ⟨hu.1, ok_grow (fun b hb => (hr b hb).1) (fun a u hb => (hr _ hb).2 a u rfl) hu.2⟩, ?_, by rw [hη, hF]; exact hf⟩
    rw [hη]
    exact ownsRow_keep (fun b hb => hw b (hf b hb)) hown
  | st e l =>
    obtain ⟨g', cs, e1, hf, hh, hok⟩ := h
    simp only [mvO]
    split
    · rename_i hone
      exact ⟨g', cs, hη.trans e1, by rw [hF]; exact hf, hw g' hf _ _ _ hh, hok.move hm hr hone⟩
    · trivial
  | trow e u xs =>
    obtain ⟨h1, h2, h3, h4⟩ := h
    refine ⟨by rw [hκ, hη]; exact h1, ?_, by rw [hκ]; exact h3, by rw [hκ, hF]; exact h4⟩
    rw [hκ]
    exact Ot.nd_keep hr (fun p b hp hb => hw b (h4 p b hp hb)) h2
  | mp n v es =>
    obtain ⟨g, es', clock, e1, hf, hh, hl, hok⟩ := h
    exact ⟨g, es', clock, hη.trans e1, by rw [hF]; exact hf, (hmp rfl g hf).trans hh, hl, fun j x e h1 h2 => ⟨(hok j x e h1 h2).1, (hok j x e h1 h2).2.1, okV_grow (fun b hb => (hr b hb).1) (fun a u hb => (hr _ hb).2 a u rfl) (hok j x e h1 h2).2.2⟩⟩
  | hol e e2 u xs kk s =>
    obtain ⟨h1, ⟨css, hv, c1, c2, c3, h4, h5⟩, h2, h3, h6, h7, h8⟩ := h
    simp only [mvO]
    split
    · rename_i hs
      have hF0 : ∀ b, (A.η i).ownBlock = some b → A.F i b := fun b hb => h8 [] b trivial (by simp) (by rw [h1]; exact hb)
      refine ⟨by rw [hκ, hη]; exact h1, ⟨css, hv, c1, by rw [hκ]; exact c2, ?_, mv_ok0 hm hr h4, h5⟩, h2, hs, fun m y hm hy => ?_, by rw [hκ]; exact h7, fun p b hp hh hb => by rw [hF]; exact h8 p b hp hh (by rw [hκ] at hb; exact hb)⟩
      · rw [hη]; exact ownsRow_keep (fun b hb => hw b (hF0 b hb)) c3
      · rw [hκ]
        exact Ot.nd_keep hr (fun p b hp hb => hw b (h8 (m :: p) b ⟨y, hy, hp⟩ (by simpa using hm) hb)) (h6 m y hm hy)
    · trivial
  | tok => intro b hb; rw [hη] at hb; exact h b hb
  | dead => trivial

end Go.Vc
