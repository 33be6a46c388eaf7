/- VC framework, part C: types of the program, and the operations that only compute or read. -/
import Derived.Test.YtgbpjjinhjikeaaVcB
import Derived.Laws.BitsAllLaws
import Derived.Laws.BitsLemmas
namespace Go.Vc
open Go.RowKit

def InfoOk (P : Program) (T : TypeId) (t : Ty) : Prop := ∃ i, P.info? T = some i ∧ i.size = t.size ∧ i.zero = some (t.mk t.zc) ∧ i.bytes ≤ 32 * t.size

def Fit (P : Program) : Ty → TypeId ⊕ (Array Field × Nat × Nat) → Prop
  | .int k, .inl T => InfoOk P T (.int k) ∧ P.underlying T = some (.int k)
  | .bool, .inl T => InfoOk P T .bool ∧ P.underlying T = some .bool
  | .str, .inl T => InfoOk P T .str ∧ P.underlying T = some .string
  | .err E, .inl T => InfoOk P T (.err E) ∧ (∃ ms, P.underlying T = some (.interface ms)) ∧ P.underlying E = some (.int .i64)
  | .sl t, .inl T => InfoOk P T (.sl t) ∧ ∃ e, P.underlying T = some (.slice e) ∧ Fit P t (.inl e)
  | .ar n t, .inl T => InfoOk P T (.ar n t) ∧ ∃ e, P.underlying T = some (.array n e) ∧ Fit P t (.inl e)
  | .un, .inl T => InfoOk P T .un ∧ P.underlying T = some (.struct #[])
  | .pr a b, .inl T => InfoOk P T (.pr a b) ∧ ∃ fs fld, P.underlying T = some (.struct fs) ∧ fs[0]? = some fld ∧ fld.offset = 0 ∧ a.size ≠ 0 ∧ Fit P a (.inl fld.type) ∧ Fit P b (.inr (fs, 1, a.size))
  | .un, .inr (fs, f, _) => fs.size = f
  | .pr a b, .inr (fs, f, o) => ∃ fld, fs[f]? = some fld ∧ fld.offset = o ∧ a.size ≠ 0 ∧ Fit P a (.inl fld.type) ∧ Fit P b (.inr (fs, f + 1, o + a.size))
  | _, .inr _ => False

def eatZ : Ty → List Value → Option (List Value)
  | .int k, .int k' n :: r => if k = k' ∧ n = 0 then some r else none
  | .bool, .bool false :: r => some r
  | .str, .string s :: r => if s.data.toList = [] then some r else none
  | .err _, .nilIface :: r => some r
  | .sl _, .slice none 0 0 :: r => some r
  | .pr a b, l => match eatZ a l with
    | some r => eatZ b r
    | none => none
  | .un, l => some l
  | .ar n t, l => Nat.rec (motive := fun _ => Option (List Value)) (some l) (fun _ ih => match ih with
      | some r => eatZ t r
      | none => none) n
  | _, _ => none

theorem eatZ_ok : ∀ {t : Ty} {l r : List Value}, eatZ t l = some r → l = t.zc ++ r := by
  intro t
  induction t with
  | int k =>
    intro l r h
    match l with
    | .int k' n :: l =>
      simp only [eatZ] at h
      split at h
      · rename_i hk; obtain ⟨rfl, rfl⟩ := hk
        injection h with h; subst h; rfl
      · cases h
    | [] => simp [eatZ] at h
    | .bool _ :: _ | .float _ _ :: _ | .complex _ _ _ :: _ | .string _ :: _ | .pointer _ :: _ | .slice _ _ _ :: _ | .map _ :: _ | .chan _ :: _ | .func _ _ _ :: _ | .nilFunc :: _ | .iface _ _ :: _ | .nilIface :: _ | .agg _ :: _ | .tuple _ :: _ => simp [eatZ] at h
  | bool =>
    intro l r h
    unfold eatZ at h
    split at h <;> first | (rename_i h1 h2; cases h1; done) | (injection h with h; subst h; rfl) | (cases h; done) | simp_all
  | str =>
    intro l r h
    match l with
    | .string s :: l =>
      simp only [eatZ] at h
      split at h
      · rename_i hs
        injection h with h; subst h
        have : s = ⟨#[]⟩ := by cases s; rename_i d; simp at hs; subst hs; rfl
        subst this; rfl
      · cases h
    | [] => simp [eatZ] at h
    | .bool _ :: _ | .float _ _ :: _ | .complex _ _ _ :: _ | .int _ _ :: _ | .pointer _ :: _ | .slice _ _ _ :: _ | .map _ :: _ | .chan _ :: _ | .func _ _ _ :: _ | .nilFunc :: _ | .iface _ _ :: _ | .nilIface :: _ | .agg _ :: _ | .tuple _ :: _ => simp [eatZ] at h
  | err T =>
    intro l r h
    match l with
    | .nilIface :: l => simp only [eatZ] at h; injection h with h; subst h; rfl
    | [] => simp [eatZ] at h
    | .bool _ :: _ | .float _ _ :: _ | .complex _ _ _ :: _ | .int _ _ :: _ | .pointer _ :: _ | .slice _ _ _ :: _ | .map _ :: _ | .chan _ :: _ | .func _ _ _ :: _ | .nilFunc :: _ | .iface _ _ :: _ | .string _ :: _ | .agg _ :: _ | .tuple _ :: _ => simp [eatZ] at h
  | sl t _ =>
    intro l r h
    match l with
    | .slice none 0 0 :: l => simp only [eatZ] at h; injection h with h; subst h; rfl
    | .slice (some _) _ _ :: _ | .slice none (_ + 1) _ :: _ | .slice none 0 (_ + 1) :: _ => simp [eatZ] at h
    | [] => simp [eatZ] at h
    | .bool _ :: _ | .float _ _ :: _ | .complex _ _ _ :: _ | .int _ _ :: _ | .pointer _ :: _ | .nilIface :: _ | .map _ :: _ | .chan _ :: _ | .func _ _ _ :: _ | .nilFunc :: _ | .iface _ _ :: _ | .string _ :: _ | .agg _ :: _ | .tuple _ :: _ => simp [eatZ] at h
  | pr a b iha ihb =>
    intro l r h
    simp only [eatZ] at h
    split at h
    · rename_i r' hr
      rw [iha hr, ihb h]; simp [Ty.zc]
    · cases h
  | un => intro l r h; simp only [eatZ] at h; injection h
  | ar n t ih =>
    intro l r h
    have key : ∀ (m : Nat) (r : List Value), (Nat.rec (motive := fun _ => Option (List Value)) (some l) (fun _ ih => match ih with
      | some r => eatZ t r
      | none => none) m) = some r → l = (List.replicate m t.zc).flatten ++ r := by
      intro m
      induction m with
      | zero => intro r h; injection h with h
      | succ m ihm =>
        intro r h
        simp only at h
        split at h
        · rename_i r' hr
          have h1 := ihm _ hr
          have h2 := ih h
          rw [h1, h2, List.replicate_succ', List.flatten_append]; simp
        · cases h
    exact key n r h

def infoB (P : Program) (T : TypeId) (t : Ty) : Bool :=
  match P.info? T with
  | some i => i.size == t.size && decide (i.bytes ≤ 32 * t.size) && (match i.zero with
    | some z => (if t.agg then (match z with | .agg cs => (match eatZ t cs.toList with | some [] => true | _ => false) | _ => false)
        else (match eatZ t [z] with | some [] => true | _ => false))
    | none => false)
  | none => false

theorem infoB_ok {P : Program} {T : TypeId} {t : Ty} (h : infoB P T t = true) : InfoOk P T t := by
  unfold infoB at h
  split at h
  · rename_i i hi
    simp only [Bool.and_eq_true, beq_iff_eq, decide_eq_true_eq] at h
    obtain ⟨⟨h1, h2⟩, h3⟩ := h
    refine ⟨i, hi, h1, ?_, h2⟩
    split at h3
    · rename_i z hz
      rw [hz]
      unfold Ty.mk
      split at h3
      · rename_i ha
        rw [if_pos ha]
        split at h3
        · rename_i cs
          split at h3
          · rename_i he
            have := eatZ_ok he
            simp only [List.append_nil] at this
            rw [← this]
          · cases h3
        · cases h3
      · rename_i ha
        rw [if_neg ha]
        split at h3
        · rename_i he
          have := eatZ_ok he
          simp only [List.append_nil] at this
          rw [← this]; rfl
        · cases h3
    · cases h3
  · cases h

def fitB (P : Program) : Ty → TypeId ⊕ (Array Field × Nat × Nat) → Bool
  | .int k, .inl T => infoB P T (.int k) && (match P.underlying T with | some (.int k') => decide (k = k') | _ => false)
  | .bool, .inl T => infoB P T .bool && (match P.underlying T with | some .bool => true | _ => false)
  | .str, .inl T => infoB P T .str && (match P.underlying T with | some .string => true | _ => false)
  | .err E, .inl T => infoB P T (.err E) && (match P.underlying T with | some (.interface _) => true | _ => false) && (match P.underlying E with | some (.int .i64) => true | _ => false)
  | .sl t, .inl T => infoB P T (.sl t) && (match P.underlying T with | some (.slice e) => fitB P t (.inl e) | _ => false)
  | .ar n t, .inl T => infoB P T (.ar n t) && (match P.underlying T with | some (.array m e) => decide (n = m) && fitB P t (.inl e) | _ => false)
  | .un, .inl T => infoB P T .un && (match P.underlying T with | some (.struct fs) => fs.toList.isEmpty | _ => false)
  | .pr a b, .inl T => infoB P T (.pr a b) && (match P.underlying T with
    | some (.struct fs) => (match fs[0]? with
      | some fld => decide (fld.offset = 0) && decide (a.size ≠ 0) && fitB P a (.inl fld.type) && fitB P b (.inr (fs, 1, a.size))
      | none => false)
    | _ => false)
  | .un, .inr (fs, f, _) => decide (fs.size = f)
  | .pr a b, .inr (fs, f, o) => (match fs[f]? with
      | some fld => decide (fld.offset = o) && decide (a.size ≠ 0) && fitB P a (.inl fld.type) && fitB P b (.inr (fs, f + 1, o + a.size))
      | none => false)
  | _, .inr _ => false

theorem fitB_ok {P : Program} : ∀ {t : Ty} {x}, fitB P t x = true → Fit P t x := by
  intro t
  induction t with
  | int k =>
    intro x h
    cases x with
    | inr x => simp [fitB] at h
    | inl T =>
      simp only [fitB, Bool.and_eq_true] at h
      refine ⟨infoB_ok h.1, ?_⟩
      have h2 := h.2
      split at h2
      · rename_i k' hk; rw [hk]; simp at h2; rw [h2]
      · cases h2
  | bool =>
    intro x h
    cases x with
    | inr x => simp [fitB] at h
    | inl T =>
      simp only [fitB, Bool.and_eq_true] at h
      refine ⟨infoB_ok h.1, ?_⟩
      have h2 := h.2
      split at h2
      · assumption
      · cases h2
  | str =>
    intro x h
    cases x with
    | inr x => simp [fitB] at h
    | inl T =>
      simp only [fitB, Bool.and_eq_true] at h
      refine ⟨infoB_ok h.1, ?_⟩
      have h2 := h.2
      split at h2
      · assumption
      · cases h2
  | err E =>
    intro x h
    cases x with
    | inr x => simp [fitB] at h
    | inl T =>
      simp only [fitB, Bool.and_eq_true] at h
      refine ⟨infoB_ok h.1.1, ?_, ?_⟩
      · have h2 := h.1.2
        split at h2
        · exact ⟨_, by assumption⟩
        · cases h2
      · have h2 := h.2
        split at h2
        · assumption
        · cases h2
  | sl t ih =>
    intro x h
    cases x with
    | inr x => simp [fitB] at h
    | inl T =>
      simp only [fitB, Bool.and_eq_true] at h
      refine ⟨infoB_ok h.1, ?_⟩
      have h2 := h.2
      split at h2
      · exact ⟨_, by assumption, ih h2⟩
      · cases h2
  | ar n t ih =>
    intro x h
    cases x with
    | inr x => simp [fitB] at h
    | inl T =>
      simp only [fitB, Bool.and_eq_true] at h
      refine ⟨infoB_ok h.1, ?_⟩
      have h2 := h.2
      split at h2
      · simp only [Bool.and_eq_true, decide_eq_true_eq] at h2
        obtain ⟨rfl, h2⟩ := h2
        exact ⟨_, by assumption, ih h2⟩
      · cases h2
  | un =>
    intro x h
    cases x with
    | inr x =>
      obtain ⟨fs, f, o⟩ := x
      have h' : fs.size = f := by simpa [fitB] using h
      exact h'
    | inl T =>
      simp only [fitB, Bool.and_eq_true] at h
      refine ⟨infoB_ok h.1, ?_⟩
      have h2 := h.2
      split at h2
      · rename_i fs hfs
        rw [hfs]; simp at h2; rw [h2]
      · cases h2
  | pr a b iha ihb =>
    intro x h
    cases x with
    | inr x =>
      obtain ⟨fs, f, o⟩ := x
      simp only [fitB] at h
      split at h
      · rename_i fld hf
        simp only [Bool.and_eq_true, decide_eq_true_eq] at h
        exact ⟨fld, hf, h.1.1.1, h.1.1.2, iha h.1.2, ihb h.2⟩
      · cases h
    | inl T =>
      simp only [fitB, Bool.and_eq_true] at h
      refine ⟨infoB_ok h.1, ?_⟩
      have h2 := h.2
      split at h2
      · rename_i fs hfs
        split at h2
        · rename_i fld hf
          simp only [Bool.and_eq_true, decide_eq_true_eq] at h2
          exact ⟨fs, fld, hfs, hf, h2.1.1.1, h2.1.1.2, iha h2.1.2, ihb h2.2⟩
        · cases h2
      · cases h2

theorem Fit.info {P : Program} {t : Ty} {T : TypeId} (h : Fit P t (.inl T)) : InfoOk P T t := by
  cases t <;> exact h.1

theorem Fit.size {P : Program} {t : Ty} {T : TypeId} (h : Fit P t (.inl T)) (w : World) : (sizeOf T).run P w = .ok t.size w := by
  obtain ⟨i, hi, hs, _⟩ := h.info
  simp [sizeOf, typeInfo, hi, hs]

theorem Fit.isAgg {P : Program} {t : Ty} {T : TypeId} (h : Fit P t (.inl T)) (w : World) : (isAgg T).run P w = .ok t.agg w := by
  have key : ∃ d, P.underlying T = some d ∧ (match d with | .struct _ | .array _ _ => true | _ => false) = t.agg := by
    cases t with
    | int k => exact ⟨_, h.2, rfl⟩
    | bool => exact ⟨_, h.2, rfl⟩
    | str => exact ⟨_, h.2, rfl⟩
    | err E => obtain ⟨ms, hm⟩ := h.2.1; exact ⟨_, hm, rfl⟩
    | sl t => obtain ⟨e, he, _⟩ := h.2; exact ⟨_, he, rfl⟩
    | ar n t => obtain ⟨e, he, _⟩ := h.2; exact ⟨_, he, rfl⟩
    | un => exact ⟨_, h.2, rfl⟩
    | pr a b => obtain ⟨fs, _, he, _⟩ := h.2; exact ⟨_, he, rfl⟩
  obtain ⟨d, hd, ht⟩ := key
  unfold Go.isAgg
  rw [Sem.run_bind, run_underlying hd w]
  cases d <;> simp_all

theorem Fit.load {P : Program} {t : Ty} {T : TypeId} (h : Fit P t (.inl T)) {w : World} {ad : Addr} {us : List Value} (hl : us.length = t.size)
    (hc : ∀ j u, us[j]? = some u → w.cell? (ad.add j) = some u) : (loadVar T ad).run P w = .ok (t.mk us) w := by
  unfold loadVar Ty.mk
  rw [Sem.run_bind, h.isAgg w, Result.andThen_ok]
  cases ha : t.agg with
  | true =>
    have hcs := run_loadCells_list (P := P) w ad us hc
    rw [hl] at hcs
    simp [h.size w, hcs]
  | false =>
    rw [size_one ha] at hl
    match us, hl with
    | [c], _ =>
      have := hc 0 c rfl
      rw [Addr.add_zero'] at this
      simp [run_load, this]

/-- The environment: what the program's type numbers stand for. -/
structure Env where
  tys : List (TypeId × Ty)
  errT : TypeId
  eqs : List TypeId
  els : List (TypeId × TypeId)

def look : List (TypeId × Ty) → TypeId → Option Ty
  | [], _ => none
  | x :: r, T => if x.1 = T then some x.2 else look r T

def Env.ty (E : Env) (T : TypeId) : Option Ty := look E.tys T
def Env.eqT (E : Env) (T : TypeId) : Bool := E.eqs.contains T

def lookT : List (TypeId × TypeId) → TypeId → Option TypeId
  | [], _ => none
  | x :: r, T => if x.1 = T then some x.2 else lookT r T

def Env.el (E : Env) (T : TypeId) : Option TypeId := lookT E.els T

structure EnvOk (P : Program) (E : Env) : Prop where
  ty : ∀ T t, E.ty T = some t → Fit P t (.inl T)
  err : P.underlying E.errT = some (.int .i64)
  el : ∀ T e, E.el T = some e → P.underlying T = some (.slice e)

theorem look_find (l : List (TypeId × Ty)) (T : TypeId) : look l T = (l.find? fun x => x.1 == T).map (·.2) := by
  induction l with
  | nil => rfl
  | cons x r ih =>
    simp only [look, List.find?_cons]
    by_cases h : x.1 = T
    · simp [h]
    · have : (x.1 == T) = false := by simpa using h
      rw [if_neg h, this]; exact ih

theorem lookT_mem {l : List (TypeId × TypeId)} {T e : TypeId} (h : lookT l T = some e) : (T, e) ∈ l := by
  induction l with
  | nil => cases h
  | cons x r ih =>
    simp only [lookT] at h
    split at h
    · rename_i hx
      injection h with h
      subst h; subst hx
      exact List.mem_cons_self ..
    · exact List.mem_cons_of_mem _ (ih h)

theorem EnvOk.of_list {P : Program} {E : Env} (h : (E.tys.all fun x => fitB P x.2 (.inl x.1)) = true) (he : P.underlying E.errT = some (.int .i64))
    (hl : (E.els.all fun x => match P.underlying x.1 with | some (.slice e) => e == x.2 | _ => false) = true) : EnvOk P E := by
  refine ⟨fun T t ht => ?_, he, fun T e hT => ?_⟩
  rotate_left
  · have := List.all_eq_true.1 hl _ (lookT_mem hT)
    simp only at this
    split at this
    · rename_i e' he'
      simp only [beq_iff_eq] at this
      rw [he', this]
    · cases this
  rw [Env.ty, look_find] at ht
  obtain ⟨x, hx, rfl⟩ := Option.map_eq_some_iff.1 ht
  have h1 := List.find?_some hx
  have h2 := List.mem_of_find?_eq_some hx
  have := List.all_eq_true.1 h x h2
  simp only [beq_iff_eq] at h1
  subst h1
  exact fitB_ok this


/-! Operands. -/

def ofV (E : Env) : Value → SV
  | .bool b => .bt b
  | .int k n => if k.wrap n = n then .d (.int k) n else .any
  | .string s => if s.data.toList.length ≤ 65536 then .d .str s.data.toList else .any
  | .nilIface => .d (.err E.errT) (0 : Int)
  | .iface T (.int .i64 n) => if n = 0 then .any else .d (.err T) n
  | .slice none 0 0 => .nils
  | .pointer none => .nilp
  | _ => .any

theorem ofV_ok (E : Env) (w : World) (ro : Nat → Prop) (A : Asg) (v : Value) : SvOk w ro A (ofV E v) v := by
  unfold ofV
  split
  · rfl
  · split
    · rename_i h; exact ⟨rfl, h⟩
    · trivial
  · split
    · rename_i s h; exact ⟨by simp, by simp only [maxLen]; omega⟩
    · trivial
  · exact .inl ⟨rfl, rfl⟩
  · split
    · trivial
    · rename_i h; exact .inr ⟨h, rfl⟩
  · rfl
  · rfl
  · trivial

def St.ev (E : Env) (st : St) : Operand → SV
  | .tmp t => st.tm.getD t .any
  | .const v => ofV E v
  | _ => .any

theorem Inv.ev {E : Env} {w0 : World} {M R0 : Nat → Prop} {A : Asg} {st : St} {a : Act} {w : World} (I : Inv w0 M R0 A st a w) (x : Operand) :
    SvOk w (Ro R0 w0.heap.size A st.ob w) A (st.ev E x) (a.eval x) := by
  cases x with
  | tmp t =>
    show SvOk w _ A (st.tm.getD t .any) (a.tmps.getD t undef)
    rcases Nat.lt_or_ge t st.tm.length with h | h
    · have := I.tm t st.tm[t] (List.getElem?_eq_getElem h)
      rwa [List.getD_eq_getElem?_getD, List.getElem?_eq_getElem h]
    · rw [List.getD_eq_getElem?_getD, List.getElem?_eq_none h]; trivial
  | const v => exact ofV_ok E w _ A v
  | global g => trivial
  | func f => trivial

/-- Every block of w lies in w'' as it was. -/
def Ext (w w'' : World) : Prop := ∀ b, b < w.heap.size → w''.heap[b]? = w.heap[b]?
theorem Ext.refl (w : World) : Ext w w := fun _ _ => rfl
theorem Ext.cell {w w'' : World} (h : Ext w w'') {a : Addr} {u : Value} (hc : w.cell? a = some u) : w''.cell? a = some u :=
  (World.cell?_of_block (h a.block (World.block_lt_of_cell? w a hc))).trans hc

theorem addr_add (g o n : Nat) : (⟨g, o, none⟩ : Addr).add n = ⟨g, o + n, none⟩ := Addr.add_lit g o n
theorem addr_add_add (ad : Addr) (h : ad.spot = none) (i j : Nat) : (ad.add i).add j = ad.add (i + j) := by
  cases ad; simp only at h; subst h; simp only [addr_add, Nat.add_assoc]

/-! Loads. -/

def ldD (o : Option Dat) (t : Ty) (k : SV → Prop) : Prop :=
  match o with
  | some ⟨t', y⟩ => if t' = t then k (.d t' y) else False
  | none => False

def ld (st : St) (t : Ty) (k : SV → Prop) : SV → Prop
  | .pv t0 i q => match st.ob[i]? with
    | some (.var _ t1 x) => if t1 = t0 then ldD (sub t1 x q) t k else False
    | _ => False
  | .ea t0 i kk q => match st.ob[i]? with
    | some (.row _ t1 xs) => if t1 = t0 then ldD (sub t1 (xs.getD kk t1.z) q) t k else False
    | _ => False
  | .ra t1 x => if t1 = t then k (.d t1 x) else False
  | .pc i o => match st.ob[i]? with
    | some (.cells _ l) => if t.agg then False else match l[o]? with
      | some s => k s
      | none => False
    | _ => False
  | _ => False

theorem ldD_ok {w : World} {ro : Nat → Prop} {t1 t : Ty} {x : t1.D} {cs : List Value} {q : List Nat} {o : Nat} {t' : Ty} {k : SV → Prop} (hok : t1.ok w ro x cs) (hv : vq t1 q) (ho : off t1 q = some (o, t'))
    (h : ldD (sub t1 x q) t k) : ∃ x' : t.D, k (.d t x') ∧ o + t.size ≤ t1.size ∧ t.ok w ro x' ((cs.drop o).take t.size) := by
  obtain ⟨x', e, hl, hx⟩ := sub_ok hok hv ho
  rw [e] at h
  simp only [ldD] at h
  split at h
  · rename_i ht; subst ht; exact ⟨x', h, hl, hx⟩
  · exact h.elim

theorem sv_one {w : World} {ro : Nat → Prop} {A : Asg} {s : SV} {v : Value} (h : SvOk0 w ro A s v) : SvOk w ro A s v := by
  cases s <;> first | exact h | exact h.elim

theorem run_load_at {P : Program} {w : World} {t : Ty} {T : TypeId} (hf : Fit P t (.inl T)) {g : Nat} {cs : Array Value} {e : TypeId} (hg : w.heap[g]? = some (.cells cs e (0, 0)))
    {o : Nat} {ro : Nat → Prop} {w1 : World} {x : t.D} (hok : t.ok w1 ro x ((cs.toList.drop o).take t.size)) :
    (loadVar T ⟨g, o, none⟩).run P w = .ok (t.mk ((cs.toList.drop o).take t.size)) w := by
  refine hf.load (ok_len hok) fun j u hj => ?_
  rw [addr_add, cell_of_row w g _ cs e (0, 0) hg]
  rw [List.getElem?_take] at hj
  split at hj
  · rw [List.getElem?_drop] at hj; simpa using hj
  · cases hj

theorem ld_ok {P : Program} {T : TypeId} {w0 : World} {M R0 : Nat → Prop} {A : Asg} {st : St} {a : Act} {w : World} (I : Inv w0 M R0 A st a w) {t : Ty} (hf : Fit P t (.inl T))
    {s : SV} {v : Value} (hs : SvOk w (Ro R0 w0.heap.size A st.ob w) A s v) {k : SV → Prop} (h : ld st t k s) :
    ∃ s' v', k s' ∧ SvOk w (Ro R0 w0.heap.size A st.ob w) A s' v' ∧ ∀ w'', Ext w w'' → (Instr.loadAt T v).run P w'' = .ok v' w'' := by
  unfold ld at h
  split at h
  · rename_i t0 i q
    split at h
    · rename_i e t1 x hob
      split at h
      · rename_i ht; subst ht
        obtain ⟨_, g, o, t', hη, ho, hv, rfl⟩ := hs
        obtain ⟨g', cs, hη', _, hh, hok⟩ := I.ob i _ hob
        rw [hη] at hη'; injection hη' with hη'; injection hη' with hη'; injection hη' with hη'; subst hη'
        obtain ⟨x', hk, _, hx⟩ := ldD_ok hok hv ho h
        refine ⟨_, _, hk, okV_mk hx, fun w'' hw => ?_⟩
        have hg : w''.heap[g]? = some (.cells cs e (0, 0)) := (hw g (Array.getElem?_eq_some_iff.1 hh).1).trans hh
        simp [Instr.loadAt, Instr.sureAddr, run_load_at hf hg hx]
      · exact h.elim
    · exact h.elim
  · rename_i t0 i kk q
    split at h
    · rename_i e t1 xs hob
      split at h
      · rename_i ht; subst ht
        obtain ⟨_, g, n, c, o, t', hη, hkn, ho, hv, rfl⟩ := hs
        obtain ⟨css, hoks, hown, _⟩ := I.ob i _ hob
        rw [hη] at hown
        obtain ⟨_, hown⟩ := hown
        rcases hown with ⟨he, _⟩ | ⟨g', cap, cur, he, _, hh, hnc, _, hcur, htake⟩
        · cases he
        injection he with he1 he2 he3
        injection he1 with he1; injection he1 with he1; subst he1; subst he2
        obtain ⟨u, hu, hul, hou⟩ := hoks.at_ hkn t1.z
        obtain ⟨x', hk, hl, hx⟩ := ldD_ok hou hv ho h
        have hfa := flat_at hoks.all hu
        have hdr : (u.drop o).take t.size = (cur.toList.drop (kk * t1.size + o)).take t.size := by
          have hb : (kk + 1) * t1.size ≤ xs.length * t1.size := Nat.mul_le_mul_right _ hkn
          rw [Nat.add_mul] at hb
          rw [← hfa, ← htake, List.drop_take, List.take_take, List.drop_take, List.drop_take, List.take_take, List.drop_drop]
          congr 1; omega
        rw [hdr] at hx
        refine ⟨_, _, hk, okV_mk hx, fun w'' hw => ?_⟩
        have hg : w''.heap[g]? = some (.cells cur e (0, 0)) := (hw g (Array.getElem?_eq_some_iff.1 hh).1).trans hh
        simp [Instr.loadAt, Instr.sureAddr, run_load_at hf hg hx]
      · exact h.elim
    · exact h.elim
  · rename_i t1 x
    split at h
    · rename_i ht; subst ht
      obtain ⟨ad, us, rfl, hsp, hro, hc, hok⟩ := hs
      refine ⟨_, _, h, okV_mk hok, fun w'' hw => ?_⟩
      simp [Instr.loadAt, Instr.sureAddr, hf.load (ok_len hok) fun j u hj => hw.cell (hc j u hj)]
    · exact h.elim
  · rename_i i o
    split at h
    · rename_i e l hob
      split at h
      · exact h.elim
      · rename_i ha
        split at h
        · rename_i s' hl
          obtain ⟨_, g, hη, rfl⟩ := hs
          obtain ⟨g', cs, hη', _, hh, hok⟩ := I.ob i _ hob
          rw [hη] at hη'; injection hη' with hη'; injection hη' with hη'; injection hη' with hη'; subst hη'
          have ho : o < cs.toList.length := by rw [hok.1]; exact (List.getElem?_eq_some_iff.1 hl).1
          have hsv := hok.2 o s' _ hl (List.getElem?_eq_getElem ho)
          refine ⟨s', _, h, sv_one hsv, fun w'' hw => ?_⟩
          have hg : w''.heap[g]? = some (.cells cs e (0, 0)) := (hw g (Array.getElem?_eq_some_iff.1 hh).1).trans hh
          have hcell : w''.cell? ⟨g, o, none⟩ = some cs.toList[o] := by
            rw [cell_of_row w'' g o cs e (0, 0) hg]
            simp only [Array.length_toList] at ho
            simp [ho]
          simp [Instr.loadAt, Instr.sureAddr, loadVar, hf.isAgg w'', ha, run_load, hcell]
        · exact h.elim
    · exact h.elim
  · exact h.elim
end Go.Vc
