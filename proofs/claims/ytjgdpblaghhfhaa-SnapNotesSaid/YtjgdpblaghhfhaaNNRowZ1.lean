/- Own texts, merged: NDef, NV, NOk, NDef2, NV2, NOk2, NM, NM2, NK, NDef3. -/
import Derived.Test.YtjgdpblaghhfhaaRows
import Derived.Test.YtjgdpblaghhfhaaVcQ
import Derived.Test.YtjgdpblaghhfhaaVcNB
/- Banks whose money is noted while it is on its way: what the program's functions answer. -/
namespace Go.Proofs.Ytjgdpblaghhfhaa.N
open Go.Vc
@[match_pattern] abbrev I : Ty := .int .i64
@[match_pattern] abbrev tErr : Ty := .err 61
abbrev glK : List (Nat × Dat) := []
abbrev L2 : Type := List (List Int)
abbrev L3 : Type := List (List (List Int))
abbrev B2 : Type := List (List Bool)
@[match_pattern] abbrev tMove : Ty := .pr I (.pr I (.pr I (.pr I .un)))
@[match_pattern] abbrev tBk : Ty := .pr (.sl I) (.pr (.sl (.sl (.sl I))) (.pr (.sl I) (.pr (.sl (.sl .bool)) (.pr (.sl (.sl I)) (.pr .bool .un)))))
@[match_pattern] abbrev oR : Ot := .sl 3 (.d I)
@[match_pattern] abbrev oW : Ot := .sl 35 (.sl 3 (.d I))
@[match_pattern] abbrev oH : Ot := .sl 4 (.d .bool)
def Et : Env := { tys := [(3, I), (4, .bool), (26, tErr), (35, .sl I), (36, .sl (.sl I)), (64, .sl (.sl (.sl I))), (29, .sl .bool), (70, .sl (.sl .bool)), (46, .ptr tBk), (72, tBk), (52, tMove), (45, .sl tMove)], errT := 61, eqs := [], els := [(35, 3), (36, 35), (64, 36), (29, 4), (70, 29), (45, 52)], pb := [72] }
theorem Et_ok : EnvOk Try.prog Et := EnvOk.of_list (by kernel_rfl) (by kernel_rfl) (by kernel_rfl)
def EtN : Env := { Et with mt := [41], bs := [42, 63, 75] }
theorem EtN_ok : EnvOk Try.prog EtN := EnvOk.of_list (by kernel_rfl) (by kernel_rfl) (by kernel_rfl)
theorem mixed : Try.prog.follows .mixedOrders = true := by kernel_rfl
def inB (n lo hi : Int) : Bool := decide (lo ≤ n) && decide (n ≤ hi)
theorem inB_iff {n lo hi : Int} : inB n lo hi = true ↔ lo ≤ n ∧ n ≤ hi := by unfold inB; simp
def cWithin : Ctr := cdet [I, I, I] (fun _ _ _ => True) (fun a b c => [⟨.bool, inB a b c⟩])
/-- a bank -/
structure Bk where
  mo : List Int
  wa : L3
  no : List Int
  he : B2
  ca : L2
  bg : Bool
def bob (b : Bk) : List Ob := [.st 72 [.os 1, .os 2, .os 3, .os 4, .os 5, .d .bool b.bg], .row 3 I b.mo, .trow 36 oW b.wa, .row 3 I b.no, .trow 29 oH b.he, .trow 35 oR b.ca]
/-- a bank, and a row that is an answer -/
def bobR (r : Ob) (b : Bk) : List Ob := [.st 72 [.os 2, .os 3, .os 4, .os 5, .os 6, .d .bool b.bg], r, .row 3 I b.mo, .trow 36 oW b.wa, .row 3 I b.no, .trow 29 oH b.he, .trow 35 oR b.ca]
def at2 (k : L2) (i j : Nat) : Int := (k.getD i []).getD j 0
def at2b (k : B2) (i j : Nat) : Bool := (k.getD i []).getD j false
def at3 (k : L3) (i j : Nat) : List Int := (k.getD i []).getD j []
def wr2 (k : L2) (i j : Nat) (v : Int) : L2 := k.set i ((k.getD i []).set j v)
def wr2b (k : B2) (i j : Nat) (v : Bool) : B2 := k.set i ((k.getD i []).set j v)
def wr3 (k : L3) (i j : Nat) (v : List Int) : L3 := k.set i ((k.getD i []).set j v)
/-- marks are put on the ways from a process -/
def noteW (w : L3) (p : Nat) : Nat → L3
  | 0 => w
  | m + 1 => if m = p then noteW w p m else wr3 (noteW w p m) p m (List.append (at3 (noteW w p m) p m) [-1])
def noteF (b : Bk) (p : Nat) : Bk := ⟨b.mo, noteW b.wa p b.mo.length, b.no.set p (b.mo.getD p 0), b.he, b.ca, true⟩
def comeF (b : Bk) (n : Int) (f t : Nat) : Bk :=
  if n = -1 then (fun c : Bk => ⟨c.mo, c.wa, c.no, wr2b c.he t f true, c.ca, c.bg⟩) (if b.no.getD t 0 < 0 then noteF b t else b)
  else ⟨b.mo.set t (b.mo.getD t 0 + n), b.wa, b.no, b.he, if 0 ≤ b.no.getD t 0 ∧ at2b b.he t f = false then wr2 b.ca t f (at2 b.ca t f + n) else b.ca, b.bg⟩
def doF (b : Bk) (k f t s : Int) : Int × Bk :=
  if inB k 0 2 = false ∨ inB f 0 ((b.mo.length : Int) - 1) = false then (1, b)
  else if k = 2 then (if b.bg = true then (7, b) else (0, noteF b f.toNat))
  else if inB t 0 ((b.mo.length : Int) - 1) = false then (1, b)
  else if f = t then (6, b)
  else if k = 0 then
    if inB s 0 1000 = false then (1, b)
    else if b.mo.getD f.toNat 0 < s then (5, b)
    else if 8 ≤ (at3 b.wa f.toNat t.toNat).length then (4, b)
    else (0, ⟨b.mo.set f.toNat (b.mo.getD f.toNat 0 - s), wr3 b.wa f.toNat t.toNat (List.append (at3 b.wa f.toNat t.toNat) [s]), b.no, b.he, b.ca, b.bg⟩)
  else if (at3 b.wa f.toNat t.toNat).length = 0 then (5, b)
  else (0, comeF ⟨b.mo, wr3 b.wa f.toNat t.toNat ((at3 b.wa f.toNat t.toNat).drop 1), b.no, b.he, b.ca, b.bg⟩ ((at3 b.wa f.toNat t.toNat).getD 0 0) f.toNat t.toNat)
/-- as long as it should be, and no number too large -/
structure BkS (b : Bk) : Prop where
  n1 : 1 ≤ b.mo.length
  n5 : b.mo.length ≤ 5
  no : b.no.length = b.mo.length
  wa : b.wa.length = b.mo.length
  wa2 : ∀ i, i < b.mo.length → (b.wa.getD i []).length = b.mo.length
  wk : ∀ i j, i < b.mo.length → j < b.mo.length → (at3 b.wa i j).length ≤ 100000
  he : b.he.length = b.mo.length
  he2 : ∀ i, i < b.mo.length → (b.he.getD i []).length = b.mo.length
  ca : b.ca.length = b.mo.length
  ca2 : ∀ i, i < b.mo.length → (b.ca.getD i []).length = b.mo.length
  mb : ∀ i, i < b.mo.length → -1000000000 ≤ b.mo.getD i 0 ∧ b.mo.getD i 0 ≤ 1000000000
  cb : ∀ i j, i < b.mo.length → j < b.mo.length → -1000000000 ≤ at2 b.ca i j ∧ at2 b.ca i j ≤ 1000000000
  vb : ∀ i j v, i < b.mo.length → j < b.mo.length → v ∈ at3 b.wa i j → -1000000000 ≤ v ∧ v ≤ 1000000000
def newB (mo : List Int) : Bk := ⟨mo, List.replicate mo.length (List.replicate mo.length []), List.replicate mo.length (-1), List.replicate mo.length (List.replicate mo.length false), List.replicate mo.length (List.replicate mo.length 0), false⟩
def moOk (mo : List Int) : Bool := mo.all fun n => inB n 0 1000
def newE (mo : List Int) : Int := if mo.length = 0 then 5 else if 5 < mo.length then 4 else if moOk mo = true then 0 else 1
def oNew : OCtr := fun args ob k =>
  match args, ob with
  | [.d (.sl (.int .i64)) mo], [] => (newE mo = 0 → k (.tp [.ps 0, .d tErr (0 : Int)]) (bob (newB mo))) ∧ (newE mo ≠ 0 → k (.tp [.nilp, .d tErr (newE mo)]) [])
  | _, _ => False
def rowsW (n i : Nat) : L3 := List.replicate i (List.replicate n [])
def rowsC (n i : Nat) : L2 := List.replicate i (List.replicate n 0)
def rowsH (n i : Nat) : B2 := List.replicate i (List.replicate n false)
def anNew (mo : List Int) : Ann :=
  [loopAt 6 Nat [] (fun st i => St.at (St.only st [0, 15, 16]) [(17, .d I (i : Int))]) (fun _ i => i ≤ mo.length ∧ moOk (mo.take i) = true) (fun i => mo.length - i),
   loopAt 13 Nat [(2006, 36, oW), (3006, 3, I), (4006, 29, oH), (5006, 35, oR)] (fun st i => { St.at (St.only st [0, 6, 30, 31]) [(32, .d I (i : Int))] with ob := [.row 3 I mo, .st 72 [.os 0, .os 2, .os 3, .os 4, .os 5, .d .bool false], .trow 36 oW (rowsW mo.length i), .row 3 I (List.replicate i (-1)), .trow 29 oH (rowsH mo.length i), .trow 35 oR (rowsC mo.length i)] }) (fun _ i => i ≤ mo.length ∧ True) (fun i => mo.length - i)]
def oNote : OCtr := fun args ob k =>
  match args, ob with
  | [.ps 0, .d (.int .i64) p], [.st 72 [.os 1, .os 2, .os 3, .os 4, .os 5, .d .bool bg], .row 3 (.int .i64) mo, .trow 36 oW wa, .row 3 (.int .i64) no, .trow 29 oH he, .trow 35 oR ca] =>
    (BkS ⟨mo, wa, no, he, ca, bg⟩ ∧ 0 ≤ p ∧ p < (mo.length : Int)) ∧ k (.tp []) (bob (noteF ⟨mo, wa, no, he, ca, bg⟩ p.toNat))
  | _, _ => False
def anNote (b : Bk) (p : Int) : Ann :=
  [loopAt 3 Nat [] (fun st m => { St.at (St.only st [0, 1, 25]) [(26, .d I (m : Int))] with ob := bob ⟨b.mo, noteW b.wa p.toNat m, b.no.set p.toNat (b.mo.getD p.toNat 0), b.he, b.ca, true⟩ }) (fun _ m => m ≤ b.mo.length ∧ True) (fun m => b.mo.length - m),
   openAt 6 [fun _ => (2, p.toNat, []), fun st => (6, (st.i 4).toNat, [])] [fun _ => 6, fun _ => 2]]
def oCome : OCtr := fun args ob k =>
  match args, ob with
  | [.ps 0, .d (.int .i64) n, .d (.int .i64) f, .d (.int .i64) t], [.st 72 [.os 1, .os 2, .os 3, .os 4, .os 5, .d .bool bg], .row 3 (.int .i64) mo, .trow 36 oW wa, .row 3 (.int .i64) no, .trow 29 oH he, .trow 35 oR ca] =>
    (BkS ⟨mo, wa, no, he, ca, bg⟩ ∧ (-1000000000 ≤ n ∧ n ≤ 1000000000) ∧ (0 ≤ f ∧ f < (mo.length : Int)) ∧ 0 ≤ t ∧ t < (mo.length : Int)) ∧ k (.tp []) (bob (comeF ⟨mo, wa, no, he, ca, bg⟩ n f.toNat t.toNat))
  | _, _ => False
def oDo : OCtr := fun args ob k =>
  match args, ob with
  | [.ps 0, .d (.pr (.int .i64) (.pr (.int .i64) (.pr (.int .i64) (.pr (.int .i64) .un)))) m], [.st 72 [.os 1, .os 2, .os 3, .os 4, .os 5, .d .bool bg], .row 3 (.int .i64) mo, .trow 36 oW wa, .row 3 (.int .i64) no, .trow 29 oH he, .trow 35 oR ca] =>
    BkS ⟨mo, wa, no, he, ca, bg⟩ ∧ k (.d tErr (doF ⟨mo, wa, no, he, ca, bg⟩ m.1 m.2.1 m.2.2.1 m.2.2.2.1).1) (bob (doF ⟨mo, wa, no, he, ca, bg⟩ m.1 m.2.1 m.2.2.1 m.2.2.2.1).2)
  | _, _ => False
def anDo (f t : Int) : Ann :=
  [joinAll, openAt 22 [fun _ => (2, f.toNat, [6]), fun _ => (7, t.toNat, [6])] [fun _ => 7, fun _ => 2], openAt 26 [fun _ => (2, f.toNat, [6]), fun _ => (7, t.toNat, [6])] []]
/-- a copy of a row -/
def oClone : OCtr := fun args ob k =>
  match args, ob with
  | [.os 0], [.row 3 (.int .i64) xs] => xs.length ≤ 1000000 ∧ k (.os 1) [.row 3 I xs, .row 3 I xs]
  | [.d (.sl (.int .i64)) xs], [] => xs.length ≤ 1000000 ∧ k (.os 0) [.row 3 I xs]
  | _, _ => False
def oMoney : OCtr := fun args ob k =>
  match args, ob with
  | [.ps 0], [.st 72 [.os 1, .os 2, .os 3, .os 4, .os 5, .d .bool bg], .row 3 (.int .i64) mo, .trow 36 oW wa, .row 3 (.int .i64) no, .trow 29 oH he, .trow 35 oR ca] =>
    mo.length ≤ 5 ∧ k (.os 1) (bobR (.row 3 I mo) ⟨mo, wa, no, he, ca, bg⟩)
  | _, _ => False
def wayF (b : Bk) (f t : Int) : List Int := if (inB f 0 ((b.mo.length : Int) - 1) && inB t 0 ((b.mo.length : Int) - 1)) = true then at3 b.wa f.toNat t.toNat else []
def oWay : OCtr := fun args ob k =>
  match args, ob with
  | [.ps 0, .d (.int .i64) f, .d (.int .i64) t], [.st 72 [.os 1, .os 2, .os 3, .os 4, .os 5, .d .bool bg], .row 3 (.int .i64) mo, .trow 36 oW wa, .row 3 (.int .i64) no, .trow 29 oH he, .trow 35 oR ca] =>
    BkS ⟨mo, wa, no, he, ca, bg⟩ ∧ k (.os 1) (bobR (.row 3 I (wayF ⟨mo, wa, no, he, ca, bg⟩ f t)) ⟨mo, wa, no, he, ca, bg⟩)
  | _, _ => False
def anWay (f t : Int) : Ann := [joinAll, openAt 3 [fun _ => (2, f.toNat, []), fun _ => (6, t.toNat, [])] [fun _ => 6, fun _ => 2]]
def minL : List Int → Int
  | [] => 0
  | x :: r => r.foldl min x
def cMin : Ctr := cdet [.sl I] (fun (l : List Int) => 1 ≤ l.length ∧ l.length ≤ 1000) (fun (l : List Int) => [⟨I, minL l⟩])
def anMin (l : List Int) : Ann := [joinAll, loopAt 5 Nat [] (fun st i => St.at (St.only st [0]) [(3, .d I (minL (l.take i))), (4, .d I (i : Int))]) (fun _ i => 1 ≤ i ∧ i ≤ l.length) (fun i => l.length - i)]
end Go.Proofs.Ytjgdpblaghhfhaa.N

/- What the functions of this seat have to satisfy, by program: each verification condition in plain words. -/
namespace Go.Proofs.Ytjgdpblaghhfhaa
open Go.Vc Go.Proofs.Ytjgdpblaghhfhaa.N
set_option linter.unusedVariables false
theorem vcWithin (a b c : Int) (k : List Dat → Prop) : vcF ⟨Et, [], glK, [], []⟩ [] (Try.f29.body.getD .skip) Try.f29.ntmps [(.tmp 6, .bool)] [⟨I, a⟩, ⟨I, b⟩, ⟨I, c⟩] k = (
  (decide (b ≤ a) = true → k [Dat.mk Ty.bool (decide (a ≤ c))]) ∧ (decide (b ≤ a) = false → k [Dat.mk Ty.bool false])) := by kernel_rfl
theorem vcNote (mo : List Int) (wa : L3) (no : List Int) (he : B2) (ca : L2) (bg : Bool) (p : Int) (k : SV → List Ob → Prop) : vcO ⟨Et, [], glK, [], []⟩ (anNote ⟨mo, wa, no, he, ca, bg⟩ p) (Try.f34.body.getD .skip) Try.f34.ntmps [] [.ps 0, .d I p] (bob ⟨mo, wa, no, he, ca, bg⟩) k = (
  (0 : Int) ≤ p ∧ p < (↑mo.length : Int) ∧ (0 : Int) ≤ p ∧ p < (↑no.length : Int) ∧ (∃ (x : Nat), (x ≤ mo.length ∧ True) ∧ (True ∧ p = p ∧ (↑mo.length : Int) = (↑mo.length : Int) ∧ (0 : Int) = (↑x : Int) ∧ True) ∧ ((True ∧ True ∧ True ∧ True ∧ True ∧ true = true ∧ True) ∧ ((3 : Nat) = (3 : Nat) ∧ mo = mo) ∧ wa = noteW wa p.toNat x ∧ ((3 : Nat) = (3 : Nat) ∧ no.set p.toNat (mo.getD p.toNat (0 : Int)) = no.set p.toNat (mo.getD p.toNat (0 : Int))) ∧ he = he ∧ ca = ca ∧ True) ∧ True ∧ p = p ∧ True) ∧ ∀ (x : Nat), x ≤ mo.length ∧ True → (decide ((↑x : Int) < (↑mo.length : Int)) = true → ((!decide ((↑x : Int) = p)) = true → p.toNat < ((noteW wa p.toNat x)).length ∧ (↑x : Int).toNat < ((((noteW wa p.toNat x)).getD p.toNat [])).length ∧ (0 : Int) ≤ p ∧ p < (↑(List.length (noteW wa p.toNat x)) : Int) ∧ p.toNat = p.toNat ∧ (0 : Int) ≤ p ∧ p < (↑(List.length (noteW wa p.toNat x)) : Int) ∧ p.toNat = p.toNat ∧ (0 : Int) ≤ (↑x : Int) ∧ (↑x : Int) < (↑(((noteW wa p.toNat x)).getD p.toNat []).length : Int) ∧ (↑x : Int).toNat = (↑x : Int).toNat ∧ True ∧ (((((noteW wa p.toNat x)).getD p.toNat [])).getD (↑x : Int).toNat []).length + ((List.replicate (1 : Nat) (0 : Int)).set (0 : Nat) (-1 : Int)).length ≤ (1000000000 : Nat) ∧ (0 : Int) ≤ (↑x : Int) ∧ (↑x : Int) < (↑(((noteW wa p.toNat x)).getD p.toNat []).length : Int) ∧ (SV.ps (0 : Nat) = SV.ps (0 : Nat) ∧ SV.pf (I).sl.sl.sl (0 : Nat) (1 : Nat) [] = SV.pf (I).sl.sl.sl (0 : Nat) (1 : Nat) [] ∧ SV.os (2 : Nat) = SV.os (2 : Nat) ∧ ((0 : Int) ≤ p ∧ p < (↑(List.length (noteW wa p.toNat x)) : Int) ∧ SV.ta (I).sl.sl (2 : Nat) [] p.toNat [] = SV.ta (I).sl.sl (2 : Nat) [] p.toNat []) ∧ (p.toNat = p.toNat ∧ SV.os (6 : Nat) = SV.os (6 : Nat)) ∧ True) ∧ (↑x : Int).toNat = (↑x : Int).toNat ∧ True ∧ inK IntKind.i64 ((↑x : Int) + (1 : Int)) ∧ ∃ (x_1 : Nat), (x_1 ≤ mo.length ∧ True) ∧ mo.length - x_1 < mo.length - x ∧ (True ∧ p = p ∧ (↑mo.length : Int) = (↑mo.length : Int) ∧ (↑x : Int) + (1 : Int) = (↑x_1 : Int) ∧ True) ∧ ((True ∧ True ∧ True ∧ True ∧ True ∧ true = true ∧ True) ∧ ((3 : Nat) = (3 : Nat) ∧ mo = mo) ∧ ((noteW wa p.toNat x)).set p.toNat ((((((noteW wa p.toNat x)).getD p.toNat [])).set (↑x : Int).toNat ((((((noteW wa p.toNat x)).getD p.toNat [])).getD (↑x : Int).toNat []).append ((List.replicate (1 : Nat) (0 : Int)).set (0 : Nat) (-1 : Int))))) = noteW wa p.toNat x_1 ∧ ((3 : Nat) = (3 : Nat) ∧ no.set p.toNat (mo.getD p.toNat (0 : Int)) = no.set p.toNat (mo.getD p.toNat (0 : Int))) ∧ he = he ∧ ca = ca ∧ True) ∧ True ∧ p = p ∧ True) ∧ ((!decide ((↑x : Int) = p)) = false → inK IntKind.i64 ((↑x : Int) + (1 : Int)) ∧ ∃ (x_1 : Nat), (x_1 ≤ mo.length ∧ True) ∧ mo.length - x_1 < mo.length - x ∧ (True ∧ p = p ∧ (↑mo.length : Int) = (↑mo.length : Int) ∧ (↑x : Int) + (1 : Int) = (↑x_1 : Int) ∧ True) ∧ ((True ∧ True ∧ True ∧ True ∧ True ∧ true = true ∧ True) ∧ ((3 : Nat) = (3 : Nat) ∧ mo = mo) ∧ noteW wa p.toNat x = noteW wa p.toNat x_1 ∧ ((3 : Nat) = (3 : Nat) ∧ no.set p.toNat (mo.getD p.toNat (0 : Int)) = no.set p.toNat (mo.getD p.toNat (0 : Int))) ∧ he = he ∧ ca = ca ∧ True) ∧ True ∧ p = p ∧ True)) ∧ (decide ((↑x : Int) < (↑mo.length : Int)) = false → k (SV.tp []) [Ob.st (72 : Nat) [SV.os (1 : Nat), SV.os (2 : Nat), SV.os (3 : Nat), SV.os (4 : Nat), SV.os (5 : Nat), SV.d Ty.bool true], Ob.row (3 : Nat) (I) mo, Ob.trow (36 : Nat) (Ot.sl (35 : Nat) (Ot.sl (3 : Nat) (Ot.d (I)))) (noteW wa p.toNat x), Ob.row (3 : Nat) (I) (no.set p.toNat (mo.getD p.toNat (0 : Int))), Ob.trow (29 : Nat) (Ot.sl (4 : Nat) (Ot.d Ty.bool)) he, Ob.trow (35 : Nat) (Ot.sl (3 : Nat) (Ot.d (I))) ca])) := by kernel_rfl
theorem vcCome (mo : List Int) (wa : L3) (no : List Int) (he : B2) (ca : L2) (bg : Bool) (n f t : Int) (k : SV → List Ob → Prop) : vcO ⟨Et, [], glK, [], [(34, oNote)]⟩ [joinAll] (Try.f35.body.getD .skip) Try.f35.ntmps [] [.ps 0, .d I n, .d I f, .d I t] (bob ⟨mo, wa, no, he, ca, bg⟩) k = (
  (decide (n = (-1 : Int)) = true → (0 : Int) ≤ t ∧ t < (↑no.length : Int) ∧ (decide (no.getD t.toNat (0 : Int) < (0 : Int)) = true → (BkS (Bk.mk mo wa no he ca bg) ∧ (0 : Int) ≤ t ∧ t < (↑mo.length : Int)) ∧ (0 : Int) ≤ t ∧ t < (↑(List.length he) : Int) ∧ t.toNat < List.length he ∧ t.toNat < (he).length ∧ (0 : Int) ≤ f ∧ f < (↑((he).getD t.toNat []).length : Int) ∧ t.toNat < (he).length ∧ k (SV.tp []) [Ob.st (72 : Nat) [SV.os (1 : Nat), SV.os (2 : Nat), SV.os (3 : Nat), SV.os (4 : Nat), SV.os (5 : Nat), SV.d Ty.bool true], Ob.row (3 : Nat) (I) mo, Ob.trow (36 : Nat) (Ot.sl (35 : Nat) (Ot.sl (3 : Nat) (Ot.d (I)))) (noteW wa t.toNat mo.length), Ob.row (3 : Nat) (I) (no.set t.toNat (mo.getD t.toNat (0 : Int))), Ob.trow (29 : Nat) (Ot.sl (4 : Nat) (Ot.d Ty.bool)) ((he).set t.toNat ((((he).getD t.toNat [])).set f.toNat true)), Ob.trow (35 : Nat) (Ot.sl (3 : Nat) (Ot.d (I))) ca]) ∧ (decide (no.getD t.toNat (0 : Int) < (0 : Int)) = false → (0 : Int) ≤ t ∧ t < (↑(List.length he) : Int) ∧ t.toNat < List.length he ∧ t.toNat < (he).length ∧ (0 : Int) ≤ f ∧ f < (↑((he).getD t.toNat []).length : Int) ∧ t.toNat < (he).length ∧ k (SV.tp []) [Ob.st (72 : Nat) [SV.os (1 : Nat), SV.os (2 : Nat), SV.os (3 : Nat), SV.os (4 : Nat), SV.os (5 : Nat), SV.d Ty.bool bg], Ob.row (3 : Nat) (I) mo, Ob.trow (36 : Nat) (Ot.sl (35 : Nat) (Ot.sl (3 : Nat) (Ot.d (I)))) wa, Ob.row (3 : Nat) (I) no, Ob.trow (29 : Nat) (Ot.sl (4 : Nat) (Ot.d Ty.bool)) ((he).set t.toNat ((((he).getD t.toNat [])).set f.toNat true)), Ob.trow (35 : Nat) (Ot.sl (3 : Nat) (Ot.d (I))) ca])) ∧ (decide (n = (-1 : Int)) = false → (0 : Int) ≤ t ∧ t < (↑mo.length : Int) ∧ inK IntKind.i64 (mo.getD t.toNat (0 : Int) + n) ∧ (0 : Int) ≤ t ∧ t < (↑mo.length : Int) ∧ (0 : Int) ≤ t ∧ t < (↑no.length : Int) ∧ (decide ((0 : Int) ≤ no.getD t.toNat (0 : Int)) = true → (0 : Int) ≤ t ∧ t < (↑(List.length he) : Int) ∧ t.toNat < List.length he ∧ t.toNat < (he).length ∧ (0 : Int) ≤ f ∧ f < (↑((he).getD t.toNat []).length : Int) ∧ t.toNat < (he).length ∧ f.toNat < ((he).getD t.toNat []).length ∧ ((!((he).getD t.toNat []).getD f.toNat false) = true → (0 : Int) ≤ t ∧ t < (↑(List.length ca) : Int) ∧ t.toNat < List.length ca ∧ t.toNat < (ca).length ∧ (0 : Int) ≤ f ∧ f < (↑((ca).getD t.toNat []).length : Int) ∧ t.toNat < (ca).length ∧ f.toNat < ((ca).getD t.toNat []).length ∧ inK IntKind.i64 (((ca).getD t.toNat []).getD f.toNat (0 : Int) + n) ∧ t.toNat < (ca).length ∧ (0 : Int) ≤ f ∧ f < (↑((ca).getD t.toNat []).length : Int) ∧ t.toNat < (ca).length ∧ k (SV.tp []) [Ob.st (72 : Nat) [SV.os (1 : Nat), SV.os (2 : Nat), SV.os (3 : Nat), SV.os (4 : Nat), SV.os (5 : Nat), SV.d Ty.bool bg], Ob.row (3 : Nat) (I) (mo.set t.toNat (mo.getD t.toNat (0 : Int) + n)), Ob.trow (36 : Nat) (Ot.sl (35 : Nat) (Ot.sl (3 : Nat) (Ot.d (I)))) wa, Ob.row (3 : Nat) (I) no, Ob.trow (29 : Nat) (Ot.sl (4 : Nat) (Ot.d Ty.bool)) he, Ob.trow (35 : Nat) (Ot.sl (3 : Nat) (Ot.d (I))) ((ca).set t.toNat ((((ca).getD t.toNat [])).set f.toNat (((ca).getD t.toNat []).getD f.toNat (0 : Int) + n)))]) ∧ ((!((he).getD t.toNat []).getD f.toNat false) = false → k (SV.tp []) [Ob.st (72 : Nat) [SV.os (1 : Nat), SV.os (2 : Nat), SV.os (3 : Nat), SV.os (4 : Nat), SV.os (5 : Nat), SV.d Ty.bool bg], Ob.row (3 : Nat) (I) (mo.set t.toNat (mo.getD t.toNat (0 : Int) + n)), Ob.trow (36 : Nat) (Ot.sl (35 : Nat) (Ot.sl (3 : Nat) (Ot.d (I)))) wa, Ob.row (3 : Nat) (I) no, Ob.trow (29 : Nat) (Ot.sl (4 : Nat) (Ot.d Ty.bool)) he, Ob.trow (35 : Nat) (Ot.sl (3 : Nat) (Ot.d (I))) ca])) ∧ (decide ((0 : Int) ≤ no.getD t.toNat (0 : Int)) = false → k (SV.tp []) [Ob.st (72 : Nat) [SV.os (1 : Nat), SV.os (2 : Nat), SV.os (3 : Nat), SV.os (4 : Nat), SV.os (5 : Nat), SV.d Ty.bool bg], Ob.row (3 : Nat) (I) (mo.set t.toNat (mo.getD t.toNat (0 : Int) + n)), Ob.trow (36 : Nat) (Ot.sl (35 : Nat) (Ot.sl (3 : Nat) (Ot.d (I)))) wa, Ob.row (3 : Nat) (I) no, Ob.trow (29 : Nat) (Ot.sl (4 : Nat) (Ot.d Ty.bool)) he, Ob.trow (35 : Nat) (Ot.sl (3 : Nat) (Ot.d (I))) ca]))) := by kernel_rfl
theorem vcDo (mo : List Int) (wa : L3) (no : List Int) (he : B2) (ca : L2) (bg : Bool) (mk f t s : Int) (k : SV → List Ob → Prop) : vcO ⟨Et, [(29, cWithin)], glK, [], [(34, oNote), (35, clsC oCome)]⟩ (anDo f t) (Try.f23.body.getD .skip) Try.f23.ntmps [(.tmp 4, tErr)] [.ps 0, .d tMove (mk, f, t, s, ())] (bob ⟨mo, wa, no, he, ca, bg⟩) k = (
  inK IntKind.i64 ((↑mo.length : Int) - (1 : Int)) ∧ True ∧ ((!inB mk (0 : Int) (2 : Int)) = true → (1 : Int) ≠ (0 : Int) ∧ k (SV.d (Ty.err (61 : Nat)) (1 : Int)) [Ob.st (72 : Nat) [SV.os (1 : Nat), SV.os (2 : Nat), SV.os (3 : Nat), SV.os (4 : Nat), SV.os (5 : Nat), SV.d Ty.bool bg], Ob.row (3 : Nat) (I) mo, Ob.trow (36 : Nat) (Ot.sl (35 : Nat) (Ot.sl (3 : Nat) (Ot.d (I)))) wa, Ob.row (3 : Nat) (I) no, Ob.trow (29 : Nat) (Ot.sl (4 : Nat) (Ot.d Ty.bool)) he, Ob.trow (35 : Nat) (Ot.sl (3 : Nat) (Ot.d (I))) ca]) ∧ ((!inB mk (0 : Int) (2 : Int)) = false → True ∧ ((!inB f (0 : Int) ((↑mo.length : Int) - (1 : Int))) = true → (1 : Int) ≠ (0 : Int) ∧ k (SV.d (Ty.err (61 : Nat)) (1 : Int)) [Ob.st (72 : Nat) [SV.os (1 : Nat), SV.os (2 : Nat), SV.os (3 : Nat), SV.os (4 : Nat), SV.os (5 : Nat), SV.d Ty.bool bg], Ob.row (3 : Nat) (I) mo, Ob.trow (36 : Nat) (Ot.sl (35 : Nat) (Ot.sl (3 : Nat) (Ot.d (I)))) wa, Ob.row (3 : Nat) (I) no, Ob.trow (29 : Nat) (Ot.sl (4 : Nat) (Ot.d Ty.bool)) he, Ob.trow (35 : Nat) (Ot.sl (3 : Nat) (Ot.d (I))) ca]) ∧ ((!inB f (0 : Int) ((↑mo.length : Int) - (1 : Int))) = false → (decide (mk = (2 : Int)) = true → (bg = true → (7 : Int) ≠ (0 : Int) ∧ k (SV.d (Ty.err (61 : Nat)) (7 : Int)) [Ob.st (72 : Nat) [SV.os (1 : Nat), SV.os (2 : Nat), SV.os (3 : Nat), SV.os (4 : Nat), SV.os (5 : Nat), SV.d Ty.bool bg], Ob.row (3 : Nat) (I) mo, Ob.trow (36 : Nat) (Ot.sl (35 : Nat) (Ot.sl (3 : Nat) (Ot.d (I)))) wa, Ob.row (3 : Nat) (I) no, Ob.trow (29 : Nat) (Ot.sl (4 : Nat) (Ot.d Ty.bool)) he, Ob.trow (35 : Nat) (Ot.sl (3 : Nat) (Ot.d (I))) ca]) ∧ (bg = false → (BkS (Bk.mk mo wa no he ca bg) ∧ (0 : Int) ≤ f ∧ f < (↑mo.length : Int)) ∧ k (SV.d (Ty.err (61 : Nat)) (0 : Int)) [Ob.st (72 : Nat) [SV.os (1 : Nat), SV.os (2 : Nat), SV.os (3 : Nat), SV.os (4 : Nat), SV.os (5 : Nat), SV.d Ty.bool true], Ob.row (3 : Nat) (I) mo, Ob.trow (36 : Nat) (Ot.sl (35 : Nat) (Ot.sl (3 : Nat) (Ot.d (I)))) (noteW wa f.toNat mo.length), Ob.row (3 : Nat) (I) (no.set f.toNat (mo.getD f.toNat (0 : Int))), Ob.trow (29 : Nat) (Ot.sl (4 : Nat) (Ot.d Ty.bool)) he, Ob.trow (35 : Nat) (Ot.sl (3 : Nat) (Ot.d (I))) ca])) ∧ (decide (mk = (2 : Int)) = false → True ∧ ((!inB t (0 : Int) ((↑mo.length : Int) - (1 : Int))) = true → (1 : Int) ≠ (0 : Int) ∧ k (SV.d (Ty.err (61 : Nat)) (1 : Int)) [Ob.st (72 : Nat) [SV.os (1 : Nat), SV.os (2 : Nat), SV.os (3 : Nat), SV.os (4 : Nat), SV.os (5 : Nat), SV.d Ty.bool bg], Ob.row (3 : Nat) (I) mo, Ob.trow (36 : Nat) (Ot.sl (35 : Nat) (Ot.sl (3 : Nat) (Ot.d (I)))) wa, Ob.row (3 : Nat) (I) no, Ob.trow (29 : Nat) (Ot.sl (4 : Nat) (Ot.d Ty.bool)) he, Ob.trow (35 : Nat) (Ot.sl (3 : Nat) (Ot.d (I))) ca]) ∧ ((!inB t (0 : Int) ((↑mo.length : Int) - (1 : Int))) = false → (decide (f = t) = true → (6 : Int) ≠ (0 : Int) ∧ k (SV.d (Ty.err (61 : Nat)) (6 : Int)) [Ob.st (72 : Nat) [SV.os (1 : Nat), SV.os (2 : Nat), SV.os (3 : Nat), SV.os (4 : Nat), SV.os (5 : Nat), SV.d Ty.bool bg], Ob.row (3 : Nat) (I) mo, Ob.trow (36 : Nat) (Ot.sl (35 : Nat) (Ot.sl (3 : Nat) (Ot.d (I)))) wa, Ob.row (3 : Nat) (I) no, Ob.trow (29 : Nat) (Ot.sl (4 : Nat) (Ot.d Ty.bool)) he, Ob.trow (35 : Nat) (Ot.sl (3 : Nat) (Ot.d (I))) ca]) ∧ (decide (f = t) = false → ((0 : Int) ≤ f ∧ f < (↑(List.length wa) : Int) ∧ f.toNat < List.length wa ∧ f.toNat < (wa).length ∧ (0 : Int) ≤ t ∧ t < (↑((wa).getD f.toNat []).length : Int) ∧ f.toNat < (wa).length ∧ t.toNat < ((wa).getD f.toNat []).length ∧ True) ∧ (decide (mk = (0 : Int)) = true → True ∧ ((!inB s (0 : Int) (1000 : Int)) = true → (1 : Int) ≠ (0 : Int) ∧ k (SV.d (Ty.err (61 : Nat)) (1 : Int)) [Ob.st (72 : Nat) [SV.os (1 : Nat), SV.os (2 : Nat), SV.os (3 : Nat), SV.os (4 : Nat), SV.os (5 : Nat), SV.d Ty.bool bg], Ob.row (3 : Nat) (I) mo, Ob.trow (36 : Nat) (Ot.sl (35 : Nat) (Ot.sl (3 : Nat) (Ot.d (I)))) wa, Ob.row (3 : Nat) (I) no, Ob.trow (29 : Nat) (Ot.sl (4 : Nat) (Ot.d Ty.bool)) he, Ob.trow (35 : Nat) (Ot.sl (3 : Nat) (Ot.d (I))) ca]) ∧ ((!inB s (0 : Int) (1000 : Int)) = false → ((0 : Int) ≤ f ∧ f < (↑mo.length : Int) ∧ True) ∧ (decide (mo.getD f.toNat (0 : Int) < s) = true → (5 : Int) ≠ (0 : Int) ∧ k (SV.d (Ty.err (61 : Nat)) (5 : Int)) [Ob.st (72 : Nat) [SV.os (1 : Nat), SV.os (2 : Nat), SV.os (3 : Nat), SV.os (4 : Nat), SV.os (5 : Nat), SV.d Ty.bool bg], Ob.row (3 : Nat) (I) mo, Ob.trow (36 : Nat) (Ot.sl (35 : Nat) (Ot.sl (3 : Nat) (Ot.d (I)))) wa, Ob.row (3 : Nat) (I) no, Ob.trow (29 : Nat) (Ot.sl (4 : Nat) (Ot.d Ty.bool)) he, Ob.trow (35 : Nat) (Ot.sl (3 : Nat) (Ot.d (I))) ca]) ∧ (decide (mo.getD f.toNat (0 : Int) < s) = false → f.toNat < (wa).length ∧ t.toNat < (((wa).getD f.toNat [])).length ∧ (decide ((8 : Int) ≤ (↑((((wa).getD f.toNat [])).getD t.toNat []).length : Int)) = true → (4 : Int) ≠ (0 : Int) ∧ k (SV.d (Ty.err (61 : Nat)) (4 : Int)) [Ob.st (72 : Nat) [SV.os (1 : Nat), SV.os (2 : Nat), SV.os (3 : Nat), SV.os (4 : Nat), SV.os (5 : Nat), SV.d Ty.bool bg], Ob.row (3 : Nat) (I) mo, Ob.trow (36 : Nat) (Ot.sl (35 : Nat) (Ot.sl (3 : Nat) (Ot.d (I)))) wa, Ob.row (3 : Nat) (I) no, Ob.trow (29 : Nat) (Ot.sl (4 : Nat) (Ot.d Ty.bool)) he, Ob.trow (35 : Nat) (Ot.sl (3 : Nat) (Ot.d (I))) ca]) ∧ (decide ((8 : Int) ≤ (↑((((wa).getD f.toNat [])).getD t.toNat []).length : Int)) = false → ((0 : Int) ≤ f ∧ f < (↑mo.length : Int) ∧ inK IntKind.i64 (mo.getD f.toNat (0 : Int) - s) ∧ (0 : Int) ≤ f ∧ f < (↑mo.length : Int) ∧ True) ∧ f.toNat < (wa).length ∧ f.toNat = f.toNat ∧ t.toNat < (((wa).getD f.toNat [])).length ∧ t.toNat = t.toNat ∧ (0 : Int) ≤ f ∧ f < (↑(List.length wa) : Int) ∧ f.toNat = f.toNat ∧ True ∧ ((((wa).getD f.toNat [])).getD t.toNat []).length + ((List.replicate (1 : Nat) (0 : Int)).set (0 : Nat) s).length ≤ (1000000000 : Nat) ∧ (0 : Int) ≤ t ∧ t < (↑((wa).getD f.toNat []).length : Int) ∧ (SV.ps (0 : Nat) = SV.ps (0 : Nat) ∧ SV.pf (I).sl.sl.sl (0 : Nat) (1 : Nat) [] = SV.pf (I).sl.sl.sl (0 : Nat) (1 : Nat) [] ∧ SV.os (2 : Nat) = SV.os (2 : Nat) ∧ SV.pv ((I).pr ((I).pr ((I).pr ((I).pr Ty.un)))) (6 : Nat) ([] ++ [(1 : Nat)]) = SV.pv ((I).pr ((I).pr ((I).pr ((I).pr Ty.un)))) (6 : Nat) ([] ++ [(1 : Nat)]) ∧ f = f ∧ ((0 : Int) ≤ f ∧ f < (↑(List.length wa) : Int) ∧ SV.ta (I).sl.sl (2 : Nat) [] f.toNat [] = SV.ta (I).sl.sl (2 : Nat) [] f.toNat []) ∧ (f.toNat = f.toNat ∧ SV.os (7 : Nat) = SV.os (7 : Nat)) ∧ SV.pv ((I).pr ((I).pr ((I).pr ((I).pr Ty.un)))) (6 : Nat) ([] ++ [(2 : Nat)]) = SV.pv ((I).pr ((I).pr ((I).pr ((I).pr Ty.un)))) (6 : Nat) ([] ++ [(2 : Nat)]) ∧ t = t ∧ True) ∧ t.toNat = t.toNat ∧ True ∧ k (SV.d (Ty.err (61 : Nat)) (0 : Int)) [Ob.st (72 : Nat) [SV.os (1 : Nat), SV.os (2 : Nat), SV.os (3 : Nat), SV.os (4 : Nat), SV.os (5 : Nat), SV.d Ty.bool bg], Ob.row (3 : Nat) (I) (mo.set f.toNat (mo.getD f.toNat (0 : Int) - s)), Ob.trow (36 : Nat) (Ot.sl (35 : Nat) (Ot.sl (3 : Nat) (Ot.d (I)))) ((wa).set f.toNat (((((wa).getD f.toNat [])).set t.toNat (((((wa).getD f.toNat [])).getD t.toNat []).append ((List.replicate (1 : Nat) (0 : Int)).set (0 : Nat) s))))), Ob.row (3 : Nat) (I) no, Ob.trow (29 : Nat) (Ot.sl (4 : Nat) (Ot.d Ty.bool)) he, Ob.trow (35 : Nat) (Ot.sl (3 : Nat) (Ot.d (I))) ca])))) ∧ (decide (mk = (0 : Int)) = false → f.toNat < (wa).length ∧ t.toNat < (((wa).getD f.toNat [])).length ∧ (decide ((↑((((wa).getD f.toNat [])).getD t.toNat []).length : Int) = (0 : Int)) = true → (5 : Int) ≠ (0 : Int) ∧ k (SV.d (Ty.err (61 : Nat)) (5 : Int)) [Ob.st (72 : Nat) [SV.os (1 : Nat), SV.os (2 : Nat), SV.os (3 : Nat), SV.os (4 : Nat), SV.os (5 : Nat), SV.d Ty.bool bg], Ob.row (3 : Nat) (I) mo, Ob.trow (36 : Nat) (Ot.sl (35 : Nat) (Ot.sl (3 : Nat) (Ot.d (I)))) wa, Ob.row (3 : Nat) (I) no, Ob.trow (29 : Nat) (Ot.sl (4 : Nat) (Ot.d Ty.bool)) he, Ob.trow (35 : Nat) (Ot.sl (3 : Nat) (Ot.d (I))) ca]) ∧ (decide ((↑((((wa).getD f.toNat [])).getD t.toNat []).length : Int) = (0 : Int)) = false → f.toNat < (wa).length ∧ f.toNat = f.toNat ∧ t.toNat < (((wa).getD f.toNat [])).length ∧ t.toNat = t.toNat ∧ ((0 : Int) ≤ f ∧ f < (↑(List.length wa) : Int) ∧ f.toNat = f.toNat ∧ ((0 : Int) ≤ (1 : Int) ∧ (1 : Int) ≤ (↑((((wa).getD f.toNat [])).getD t.toNat []).length : Int) ∧ (0 : Nat) < ((((wa).getD f.toNat [])).getD t.toNat []).length) ∧ (0 : Int) ≤ t ∧ t < (↑((wa).getD f.toNat []).length : Int) ∧ True) ∧ t.toNat = t.toNat ∧ ((0 : Int) ≤ (0 : Int) ∧ (0 : Int) < (↑((((wa).getD f.toNat [])).getD t.toNat []).length : Int) ∧ True) ∧ (BkS (Bk.mk mo ((wa).set f.toNat (((((wa).getD f.toNat [])).set t.toNat (List.drop (1 : Nat) ((((wa).getD f.toNat [])).getD t.toNat []))))) no he ca bg) ∧ ((-1000000000 : Int) ≤ ((((wa).getD f.toNat [])).getD t.toNat []).getD (0 : Nat) (0 : Int) ∧ ((((wa).getD f.toNat [])).getD t.toNat []).getD (0 : Nat) (0 : Int) ≤ (1000000000 : Int)) ∧ ((0 : Int) ≤ f ∧ f < (↑mo.length : Int)) ∧ (0 : Int) ≤ t ∧ t < (↑mo.length : Int)) ∧ k (SV.d (Ty.err (61 : Nat)) (0 : Int)) [Ob.st (72 : Nat) [SV.os (1 : Nat), SV.os (2 : Nat), SV.os (3 : Nat), SV.os (4 : Nat), SV.os (5 : Nat), SV.d Ty.bool (comeF (Bk.mk mo ((wa).set f.toNat (((((wa).getD f.toNat [])).set t.toNat (List.drop (1 : Nat) ((((wa).getD f.toNat [])).getD t.toNat []))))) no he ca bg) (((((wa).getD f.toNat [])).getD t.toNat []).getD (0 : Nat) (0 : Int)) f.toNat t.toNat).bg], Ob.row (3 : Nat) (I) (comeF (Bk.mk mo ((wa).set f.toNat (((((wa).getD f.toNat [])).set t.toNat (List.drop (1 : Nat) ((((wa).getD f.toNat [])).getD t.toNat []))))) no he ca bg) (((((wa).getD f.toNat [])).getD t.toNat []).getD (0 : Nat) (0 : Int)) f.toNat t.toNat).mo, Ob.trow (36 : Nat) (Ot.sl (35 : Nat) (Ot.sl (3 : Nat) (Ot.d (I)))) (comeF (Bk.mk mo ((wa).set f.toNat (((((wa).getD f.toNat [])).set t.toNat (List.drop (1 : Nat) ((((wa).getD f.toNat [])).getD t.toNat []))))) no he ca bg) (((((wa).getD f.toNat [])).getD t.toNat []).getD (0 : Nat) (0 : Int)) f.toNat t.toNat).wa, Ob.row (3 : Nat) (I) (comeF (Bk.mk mo ((wa).set f.toNat (((((wa).getD f.toNat [])).set t.toNat (List.drop (1 : Nat) ((((wa).getD f.toNat [])).getD t.toNat []))))) no he ca bg) (((((wa).getD f.toNat [])).getD t.toNat []).getD (0 : Nat) (0 : Int)) f.toNat t.toNat).no, Ob.trow (29 : Nat) (Ot.sl (4 : Nat) (Ot.d Ty.bool)) (comeF (Bk.mk mo ((wa).set f.toNat (((((wa).getD f.toNat [])).set t.toNat (List.drop (1 : Nat) ((((wa).getD f.toNat [])).getD t.toNat []))))) no he ca bg) (((((wa).getD f.toNat [])).getD t.toNat []).getD (0 : Nat) (0 : Int)) f.toNat t.toNat).he, Ob.trow (35 : Nat) (Ot.sl (3 : Nat) (Ot.d (I))) (comeF (Bk.mk mo ((wa).set f.toNat (((((wa).getD f.toNat [])).set t.toNat (List.drop (1 : Nat) ((((wa).getD f.toNat [])).getD t.toNat []))))) no he ca bg) (((((wa).getD f.toNat [])).getD t.toNat []).getD (0 : Nat) (0 : Int)) f.toNat t.toNat).ca])))))))) := by kernel_rfl
theorem vcClone (xs : List Int) (k : SV → List Ob → Prop) : vcO ⟨Et, [], glK, [], []⟩ [] (Try.f33.body.getD .skip) Try.f33.ntmps [(.tmp 2, .un)] [.os 0] [.row 3 I xs] k = (
  ∀ (b : Bool), (b = true → xs = []) → (b = true → k SV.nils [Ob.row (3 : Nat) (I) xs]) ∧ (b = false → ([] : List Int).length + xs.length ≤ (1000000000 : Nat) ∧ k (SV.os (1 : Nat)) [Ob.row (3 : Nat) (I) xs, Ob.row (3 : Nat) (I) xs])) := by kernel_rfl
theorem vcCloneD (xs : List Int) (k : SV → List Ob → Prop) : vcO ⟨Et, [], glK, [], []⟩ [] (Try.f33.body.getD .skip) Try.f33.ntmps [(.tmp 2, .un)] [.d (.sl I) xs] [] k = (
  ∀ (b : Bool), (b = true → xs = []) → (b = true → k SV.nils []) ∧ (b = false → ([] : List Int).length + xs.length ≤ (1000000000 : Nat) ∧ k (SV.os (0 : Nat)) [Ob.row (3 : Nat) (I) xs])) := by kernel_rfl
theorem vcMoney (mo : List Int) (wa : L3) (no : List Int) (he : B2) (ca : L2) (bg : Bool) (k : SV → List Ob → Prop) : vcO ⟨Et, [], glK, [], [(33, oClone)]⟩ [] (Try.f27.body.getD .skip) Try.f27.ntmps [(.tmp 2, .un)] [.ps 0] (bob ⟨mo, wa, no, he, ca, bg⟩) k = (
  mo.length ≤ (1000000 : Nat) ∧ k (SV.os (1 : Nat)) [Ob.st (72 : Nat) [SV.os (2 : Nat), SV.os (3 : Nat), SV.os (4 : Nat), SV.os (5 : Nat), SV.os (6 : Nat), SV.d Ty.bool bg], Ob.row (3 : Nat) (I) mo, Ob.row (3 : Nat) (I) mo, Ob.trow (36 : Nat) (Ot.sl (35 : Nat) (Ot.sl (3 : Nat) (Ot.d (I)))) wa, Ob.row (3 : Nat) (I) no, Ob.trow (29 : Nat) (Ot.sl (4 : Nat) (Ot.d Ty.bool)) he, Ob.trow (35 : Nat) (Ot.sl (3 : Nat) (Ot.d (I))) ca]) := by kernel_rfl
theorem vcWay (mo : List Int) (wa : L3) (no : List Int) (he : B2) (ca : L2) (bg : Bool) (f t : Int) (k : SV → List Ob → Prop) : vcO ⟨Et, [(29, cWithin)], glK, [], [(33, oClone)]⟩ (anWay f t) (Try.f26.body.getD .skip) Try.f26.ntmps [(.tmp 6, .un)] [.ps 0, .d I f, .d I t] (bob ⟨mo, wa, no, he, ca, bg⟩) k = (
  inK IntKind.i64 ((↑mo.length : Int) - (1 : Int)) ∧ True ∧ ((!inB f (0 : Int) ((↑mo.length : Int) - (1 : Int))) = true → k SV.nils [Ob.st (72 : Nat) [SV.os (1 : Nat), SV.os (2 : Nat), SV.os (3 : Nat), SV.os (4 : Nat), SV.os (5 : Nat), SV.d Ty.bool bg], Ob.row (3 : Nat) (I) mo, Ob.trow (36 : Nat) (Ot.sl (35 : Nat) (Ot.sl (3 : Nat) (Ot.d (I)))) wa, Ob.row (3 : Nat) (I) no, Ob.trow (29 : Nat) (Ot.sl (4 : Nat) (Ot.d Ty.bool)) he, Ob.trow (35 : Nat) (Ot.sl (3 : Nat) (Ot.d (I))) ca]) ∧ ((!inB f (0 : Int) ((↑mo.length : Int) - (1 : Int))) = false → inK IntKind.i64 ((↑mo.length : Int) - (1 : Int)) ∧ True ∧ ((!inB t (0 : Int) ((↑mo.length : Int) - (1 : Int))) = true → k SV.nils [Ob.st (72 : Nat) [SV.os (1 : Nat), SV.os (2 : Nat), SV.os (3 : Nat), SV.os (4 : Nat), SV.os (5 : Nat), SV.d Ty.bool bg], Ob.row (3 : Nat) (I) mo, Ob.trow (36 : Nat) (Ot.sl (35 : Nat) (Ot.sl (3 : Nat) (Ot.d (I)))) wa, Ob.row (3 : Nat) (I) no, Ob.trow (29 : Nat) (Ot.sl (4 : Nat) (Ot.d Ty.bool)) he, Ob.trow (35 : Nat) (Ot.sl (3 : Nat) (Ot.d (I))) ca]) ∧ ((!inB t (0 : Int) ((↑mo.length : Int) - (1 : Int))) = false → f.toNat < (wa).length ∧ t.toNat < (((wa).getD f.toNat [])).length ∧ (0 : Int) ≤ f ∧ f < (↑(List.length wa) : Int) ∧ f.toNat = f.toNat ∧ (0 : Int) ≤ t ∧ t < (↑((wa).getD f.toNat []).length : Int) ∧ t.toNat = t.toNat ∧ ((((wa).getD f.toNat [])).getD t.toNat []).length ≤ (1000000 : Nat) ∧ k (SV.os (1 : Nat)) [Ob.st (72 : Nat) [SV.os (2 : Nat), SV.os (3 : Nat), SV.os (4 : Nat), SV.os (5 : Nat), SV.os (6 : Nat), SV.d Ty.bool bg], Ob.row (3 : Nat) (I) ((((wa).getD f.toNat [])).getD t.toNat []), Ob.row (3 : Nat) (I) mo, Ob.trow (36 : Nat) (Ot.sl (35 : Nat) (Ot.sl (3 : Nat) (Ot.d (I)))) ((wa).set f.toNat (((((wa).getD f.toNat [])).set t.toNat ((((wa).getD f.toNat [])).getD t.toNat [])))), Ob.row (3 : Nat) (I) no, Ob.trow (29 : Nat) (Ot.sl (4 : Nat) (Ot.d Ty.bool)) he, Ob.trow (35 : Nat) (Ot.sl (3 : Nat) (Ot.d (I))) ca]))) := by kernel_rfl
theorem vcMin (l : List Int) (k : List Dat → Prop) : vcF ⟨Et, [], glK, [], []⟩ (anMin l) (Try.f31.body.getD .skip) Try.f31.ntmps [(.tmp 2, I)] [⟨.sl I, l⟩] k = (
  (decide ((↑l.length : Int) < (1 : Int)) = true → False) ∧ (decide ((↑l.length : Int) < (1 : Int)) = false → (0 : Int) ≤ (0 : Int) ∧ (0 : Int) < (↑l.length : Int) ∧ (∃ (x : Nat), ((1 : Nat) ≤ x ∧ x ≤ l.length) ∧ (l = l ∧ l.getD (Int.toNat (0 : Int)) (0 : Int) = minL (List.take x l) ∧ (1 : Int) = (↑x : Int) ∧ True) ∧ True ∧ True) ∧ ∀ (x : Nat), (1 : Nat) ≤ x ∧ x ≤ l.length → (decide ((↑x : Int) < (↑l.length : Int)) = true → (0 : Int) ≤ (↑x : Int) ∧ (↑x : Int) < (↑l.length : Int) ∧ inK IntKind.i64 ((↑x : Int) + (1 : Int)) ∧ ∃ (x_1 : Nat), ((1 : Nat) ≤ x_1 ∧ x_1 ≤ l.length) ∧ l.length - x_1 < l.length - x ∧ (l = l ∧ min (minL (List.take x l)) (l.getD (↑x : Int).toNat (0 : Int)) = minL (List.take x_1 l) ∧ (↑x : Int) + (1 : Int) = (↑x_1 : Int) ∧ True) ∧ True ∧ True) ∧ (decide ((↑x : Int) < (↑l.length : Int)) = false → k [Dat.mk (I) (minL (List.take x l))]))) := by kernel_rfl
theorem vcNew (mo : List Int) (k : SV → List Ob → Prop) : vcO ⟨EtN, [(29, cWithin)], glK, [], [(33, oClone)]⟩ (anNew mo) (Try.f21.body.getD .skip) Try.f21.ntmps [(.tmp 2, .un), (.tmp 3, tErr)] [.d (.sl I) mo] [] k = (
  (decide ((↑mo.length : Int) = (0 : Int)) = true → (5 : Int) ≠ (0 : Int) ∧ k (SV.tp [SV.nilp, SV.d (Ty.err (61 : Nat)) (5 : Int)]) []) ∧ (decide ((↑mo.length : Int) = (0 : Int)) = false → (decide ((5 : Int) < (↑mo.length : Int)) = true → (4 : Int) ≠ (0 : Int) ∧ k (SV.tp [SV.nilp, SV.d (Ty.err (61 : Nat)) (4 : Int)]) []) ∧ (decide ((5 : Int) < (↑mo.length : Int)) = false → (∃ (x : Nat), (x ≤ mo.length ∧ moOk (List.take x mo) = true) ∧ (mo = mo ∧ mo = mo ∧ (↑mo.length : Int) = (↑mo.length : Int) ∧ (0 : Int) = (↑x : Int) ∧ True) ∧ True ∧ mo = mo ∧ True) ∧ ∀ (x : Nat), x ≤ mo.length ∧ moOk (List.take x mo) = true → (decide ((↑x : Int) < (↑mo.length : Int)) = true → (0 : Int) ≤ (↑x : Int) ∧ (↑x : Int) < (↑mo.length : Int) ∧ True ∧ ((!inB (mo.getD (↑x : Int).toNat (0 : Int)) (0 : Int) (1000 : Int)) = true → (1 : Int) ≠ (0 : Int) ∧ k (SV.tp [SV.nilp, SV.d (Ty.err (61 : Nat)) (1 : Int)]) []) ∧ ((!inB (mo.getD (↑x : Int).toNat (0 : Int)) (0 : Int) (1000 : Int)) = false → inK IntKind.i64 ((↑x : Int) + (1 : Int)) ∧ ∃ (x_1 : Nat), (x_1 ≤ mo.length ∧ moOk (List.take x_1 mo) = true) ∧ mo.length - x_1 < mo.length - x ∧ (mo = mo ∧ mo = mo ∧ (↑mo.length : Int) = (↑mo.length : Int) ∧ (↑x : Int) + (1 : Int) = (↑x_1 : Int) ∧ True) ∧ True ∧ mo = mo ∧ True)) ∧ (decide ((↑x : Int) < (↑mo.length : Int)) = false → mo.length ≤ (1000000 : Nat) ∧ (∃ (x : Nat), (x ≤ mo.length ∧ True) ∧ (mo = mo ∧ True ∧ mo = mo ∧ (↑mo.length : Int) = (↑mo.length : Int) ∧ (0 : Int) = (↑x : Int) ∧ True) ∧ (((3 : Nat) = (3 : Nat) ∧ mo = mo) ∧ (True ∧ True ∧ True ∧ True ∧ True ∧ false = false ∧ True) ∧ [] = rowsW mo.length x ∧ ((3 : Nat) = (3 : Nat) ∧ [] = List.replicate x (-1 : Int)) ∧ [] = rowsH mo.length x ∧ [] = rowsC mo.length x ∧ True) ∧ mo = mo ∧ True) ∧ ∀ (x : Nat), x ≤ mo.length ∧ True → (decide ((↑x : Int) < (↑mo.length : Int)) = true → True ∧ ((0 : Int) ≤ (↑mo.length : Int) ∧ (↑mo.length : Int) ≤ (↑mo.length : Int) ∧ (↑mo.length : Int) ≤ (1000000000 : Int) ∧ (SV.ps (1 : Nat) = SV.ps (1 : Nat) ∧ SV.pf (I).sl.sl.sl (1 : Nat) (1 : Nat) [] = SV.pf (I).sl.sl.sl (1 : Nat) (1 : Nat) [] ∧ SV.os (2 : Nat) = SV.os (2 : Nat) ∧ True) ∧ ((SV.ps (1 : Nat) = SV.ps (1 : Nat) ∧ SV.pf (I).sl.sl.sl (1 : Nat) (1 : Nat) [] = SV.pf (I).sl.sl.sl (1 : Nat) (1 : Nat) [] ∧ SV.os (2 : Nat) = SV.os (2 : Nat) ∧ True) ∧ (List.length (rowsW mo.length x) + [List.replicate (↑mo.length : Int).toNat ([] : List Int)].length ≤ (1000000000 : Nat) ∧ True ∧ (True ∧ (List.replicate x (-1 : Int)).length + ((List.replicate (1 : Nat) (0 : Int)).set (0 : Nat) (-1 : Int)).length ≤ (1000000000 : Nat) ∧ True ∧ ((0 : Int) ≤ (↑mo.length : Int) ∧ (↑mo.length : Int) ≤ (↑mo.length : Int) ∧ (↑mo.length : Int) ≤ (1000000000 : Int) ∧ (SV.ps (1 : Nat) = SV.ps (1 : Nat) ∧ SV.pf Ty.bool.sl.sl (1 : Nat) (3 : Nat) [] = SV.pf Ty.bool.sl.sl (1 : Nat) (3 : Nat) [] ∧ SV.os (4 : Nat) = SV.os (4 : Nat) ∧ True) ∧ ((SV.ps (1 : Nat) = SV.ps (1 : Nat) ∧ SV.pf Ty.bool.sl.sl (1 : Nat) (3 : Nat) [] = SV.pf Ty.bool.sl.sl (1 : Nat) (3 : Nat) [] ∧ SV.os (4 : Nat) = SV.os (4 : Nat) ∧ True) ∧ (List.length (rowsH mo.length x) + [List.replicate (↑mo.length : Int).toNat false].length ≤ (1000000000 : Nat) ∧ True ∧ (True ∧ True ∧ ((0 : Int) ≤ (↑mo.length : Int) ∧ (↑mo.length : Int) ≤ (↑mo.length : Int) ∧ (↑mo.length : Int) ≤ (1000000000 : Int) ∧ (SV.ps (1 : Nat) = SV.ps (1 : Nat) ∧ SV.pf (I).sl.sl (1 : Nat) (4 : Nat) [] = SV.pf (I).sl.sl (1 : Nat) (4 : Nat) [] ∧ SV.os (5 : Nat) = SV.os (5 : Nat) ∧ True) ∧ ((SV.ps (1 : Nat) = SV.ps (1 : Nat) ∧ SV.pf (I).sl.sl (1 : Nat) (4 : Nat) [] = SV.pf (I).sl.sl (1 : Nat) (4 : Nat) [] ∧ SV.os (5 : Nat) = SV.os (5 : Nat) ∧ True) ∧ (List.length (rowsC mo.length x) + [List.replicate (↑mo.length : Int).toNat (0 : Int)].length ≤ (1000000000 : Nat) ∧ True ∧ (True ∧ inK IntKind.i64 ((↑x : Int) + (1 : Int)) ∧ ∃ (x_1 : Nat), (x_1 ≤ mo.length ∧ True) ∧ mo.length - x_1 < mo.length - x ∧ (mo = mo ∧ True ∧ mo = mo ∧ (↑mo.length : Int) = (↑mo.length : Int) ∧ (↑x : Int) + (1 : Int) = (↑x_1 : Int) ∧ True) ∧ (((3 : Nat) = (3 : Nat) ∧ mo = mo) ∧ (True ∧ True ∧ True ∧ True ∧ True ∧ false = false ∧ True) ∧ List.append (rowsW mo.length x) [List.replicate (↑mo.length : Int).toNat ([] : List Int)] = rowsW mo.length x_1 ∧ ((3 : Nat) = (3 : Nat) ∧ (List.replicate x (-1 : Int)).append ((List.replicate (1 : Nat) (0 : Int)).set (0 : Nat) (-1 : Int)) = List.replicate x_1 (-1 : Int)) ∧ List.append (rowsH mo.length x) [List.replicate (↑mo.length : Int).toNat false] = rowsH mo.length x_1 ∧ List.append (rowsC mo.length x) [List.replicate (↑mo.length : Int).toNat (0 : Int)] = rowsC mo.length x_1 ∧ True) ∧ mo = mo ∧ True) ∧ True) ∧ True ∧ True) ∧ True ∧ True ∧ True) ∧ True ∧ True ∧ True ∧ True) ∧ True) ∧ True ∧ True) ∧ True ∧ True ∧ True) ∧ True ∧ True ∧ True ∧ True) ∧ True) ∧ True ∧ True) ∧ True ∧ True ∧ True) ∧ True ∧ True ∧ True ∧ True) ∧ (decide ((↑x : Int) < (↑mo.length : Int)) = false → k (SV.tp [SV.ps (0 : Nat), SV.d (Ty.err (61 : Nat)) (0 : Int)]) [Ob.st (72 : Nat) [SV.os (1 : Nat), SV.os (2 : Nat), SV.os (3 : Nat), SV.os (4 : Nat), SV.os (5 : Nat), SV.d Ty.bool false], Ob.row (3 : Nat) (I) mo, Ob.trow (36 : Nat) (Ot.sl (35 : Nat) (Ot.sl (3 : Nat) (Ot.d (I)))) (rowsW mo.length x), Ob.row (3 : Nat) (I) (List.replicate x (-1 : Int)), Ob.trow (29 : Nat) (Ot.sl (4 : Nat) (Ot.d Ty.bool)) (rowsH mo.length x), Ob.trow (35 : Nat) (Ot.sl (3 : Nat) (Ot.d (I))) (rowsC mo.length x)]))))) := by kernel_rfl
end Go.Proofs.Ytjgdpblaghhfhaa

/- Banks: the program's functions keep their contracts. -/
namespace Go.Proofs.Ytjgdpblaghhfhaa.N
open Go.Vc
theorem getD_set {α : Type} (l : List α) (i j : Nat) (v d : α) (hi : i < l.length) : (l.set i v).getD j d = if i = j then v else l.getD j d := by
  rw [List.getD_eq_getElem?_getD, List.getElem?_set]
  split
  · rename_i h; subst h; simp [hi]
  · rw [List.getD_eq_getElem?_getD]
theorem getD_memL {α : Type} {l : List α} {i : Nat} (h : i < l.length) (d : α) : l.getD i d ∈ l := by
  rw [List.getD_eq_getElem?_getD, List.getElem?_eq_getElem h]; exact List.getElem_mem ..
theorem set_getD_self {α : Type} (l : List α) (i : Nat) (d : α) : l.set i (l.getD i d) = l := by
  by_cases h : i < l.length
  · rw [List.getD_eq_getElem?_getD, List.getElem?_eq_getElem h]; exact List.set_getElem_self h
  · exact List.set_eq_of_length_le (by omega)
/-- a square of things -/
structure Sq {α : Type} (k : List (List α)) (n : Nat) : Prop where
  a : k.length = n
  b : ∀ i, i < n → (k.getD i []).length = n
def atG {α : Type} (k : List (List α)) (d : α) (i j : Nat) : α := (k.getD i []).getD j d
def wrG {α : Type} (k : List (List α)) (i j : Nat) (v : α) : List (List α) := k.set i ((k.getD i []).set j v)
theorem Sq.wr {α : Type} {k : List (List α)} {n : Nat} (h : Sq k n) {a b : Nat} (v : α) (ha : a < n) : Sq (wrG k a b v) n := by
  unfold wrG
  refine ⟨by rw [List.length_set]; exact h.a, fun i hi => ?_⟩
  rw [getD_set _ _ _ _ _ (by rw [h.a]; exact ha)]
  split
  · rw [List.length_set]; exact h.b a ha
  · exact h.b i hi
theorem atG_wr {α : Type} {k : List (List α)} {n : Nat} (h : Sq k n) {a b : Nat} (v d : α) (ha : a < n) (hb : b < n) (i j : Nat) : atG (wrG k a b v) d i j = if a = i ∧ b = j then v else atG k d i j := by
  unfold wrG atG
  rw [getD_set _ _ _ _ _ (by rw [h.a]; exact ha)]
  by_cases h1 : a = i
  · rw [if_pos h1, getD_set _ _ _ _ _ (by rw [h.b a ha]; exact hb)]
    by_cases h2 : b = j
    · rw [if_pos h2, if_pos ⟨h1, h2⟩]
    · rw [if_neg h2, if_neg (fun h => h2 h.2), h1]
  · rw [if_neg h1, if_neg (fun h => h1 h.1)]
theorem noteW_sq {w : L3} {n : Nat} (h : Sq w n) {p : Nat} (hp : p < n) : ∀ m, Sq (noteW w p m) n
  | 0 => h
  | m + 1 => by
    unfold noteW
    split
    · exact noteW_sq h hp m
    · exact (noteW_sq h hp m).wr _ hp
theorem noteW_at {w : L3} {n : Nat} (h : Sq w n) {p : Nat} (hp : p < n) (i j : Nat) : ∀ m, m ≤ n → at3 (noteW w p m) i j = if i = p ∧ j < m ∧ j ≠ p then at3 w i j ++ [-1] else at3 w i j
  | 0, _ => by unfold noteW; rw [if_neg (by omega)]
  | m + 1, hm => by
    have ih := noteW_at h hp i j m (by omega)
    have ih2 := noteW_at h hp p m m (by omega)
    unfold noteW
    split
    · rename_i hmp
      rw [ih]
      by_cases hc : i = p ∧ j < m ∧ j ≠ p
      · rw [if_pos hc, if_pos ⟨hc.1, by omega, hc.2.2⟩]
      · rw [if_neg hc, if_neg (by omega)]
    · rename_i hmp
      have := atG_wr (noteW_sq h hp m) (List.append (at3 (noteW w p m) p m) [-1]) [] hp (by omega : m < n) i j
      have e : at3 (wr3 (noteW w p m) p m (List.append (at3 (noteW w p m) p m) [-1])) i j = _ := this
      rw [e]
      by_cases hc : p = i ∧ m = j
      · obtain ⟨rfl, rfl⟩ := hc
        rw [if_pos ⟨rfl, rfl⟩, ih2, if_neg (by omega), if_pos ⟨rfl, by omega, hmp⟩]
        rfl
      · rw [if_neg hc]
        have ih' : atG (noteW w p m) [] i j = _ := ih
        rw [ih']
        by_cases hd : i = p ∧ j < m ∧ j ≠ p
        · rw [if_pos hd, if_pos ⟨hd.1, by omega, hd.2.2⟩]
        · rw [if_neg hd, if_neg (by omega)]
theorem BkS.sw {b : Bk} (S : BkS b) : Sq b.wa b.mo.length := ⟨S.wa, S.wa2⟩
theorem BkS.sh {b : Bk} (S : BkS b) : Sq b.he b.mo.length := ⟨S.he, S.he2⟩
theorem BkS.sc {b : Bk} (S : BkS b) : Sq b.ca b.mo.length := ⟨S.ca, S.ca2⟩
theorem okWithin : PlainOk Try.prog glK 29 cWithin := by
  refine plain_of (CxOk.mk' Et_ok rfl mixed (gl := glK) GOk.nil GoOk.nil noIt) Try.func29 (c := Try.f29.body.getD .skip) (rvs := [(.tmp 6, .bool)]) (by kernel_rfl) (by kernel_rfl) (by kernel_rfl) ?_
  intro ds k ⟨hp, hk⟩ hwf
  obtain ⟨a, b, c, rfl, -⟩ := dest3 hp
  have hk : k [⟨.bool, inB a b c⟩] := hk
  refine ⟨[], ?_⟩
  rw [vcWithin]
  unfold inB at hk
  refine ⟨fun h => ?_, fun h => ?_⟩ <;> simpa [h] using hk
theorem note_vc (mo : List Int) (wa : L3) (no : List Int) (he : B2) (ca : L2) (bg : Bool) (p : Int) (k : SV → List Ob → Prop) (S : BkS ⟨mo, wa, no, he, ca, bg⟩) (h0 : 0 ≤ p) (h1 : p < (mo.length : Int))
    (hk : k (.tp []) (bob (noteF ⟨mo, wa, no, he, ca, bg⟩ p.toNat))) :
    vcO ⟨Et, [], glK, [], []⟩ (anNote ⟨mo, wa, no, he, ca, bg⟩ p) (Try.f34.body.getD .skip) Try.f34.ntmps [] [.ps 0, .d I p] (bob ⟨mo, wa, no, he, ca, bg⟩) k := by
  rw [vcNote]
  have P : p.toNat < mo.length := by omega
  have W := fun m => noteW_sq S.sw P m
  have hno : no.length = mo.length := S.no
  have n5 : mo.length ≤ 5 := S.n5
  have e1 : (List.replicate 1 (0 : Int)).set 0 (-1) = [-1] := rfl
  simp only [Int.toNat_natCast, and_true, true_and, e1, decide_eq_true_eq, decide_eq_false_iff_not, Bool.not_eq_true', Bool.not_eq_false', Bool.not_eq_eq_eq_not, Bool.not_true, Bool.not_false]
  refine ⟨h0, h1, h0, by omega, ⟨0, Nat.zero_le _, rfl, rfl⟩, fun x hx => ⟨fun hlt => ⟨fun hne => ?_, fun heq => ?_⟩, fun hge => ?_⟩⟩
  · have w1 : (noteW wa p.toNat x).length = mo.length := (W x).a
    have w2 : ((noteW wa p.toNat x).getD p.toNat []).length = mo.length := (W x).b _ P
    have w3 : (List.length (noteW wa p.toNat x)) = mo.length := w1
    have w4 : (((noteW wa p.toNat x).getD p.toNat []).getD x []).length ≤ 100001 := by
      have e := noteW_at S.sw P p.toNat x x hx
      have e' : ((noteW wa p.toNat x).getD p.toNat []).getD x [] = _ := e
      rw [e', if_neg (by omega)]
      exact Nat.le_succ_of_le (S.wk p.toNat x P (show x < mo.length by omega))
    have w5 : (wr3 (noteW wa p.toNat x) p.toNat x (List.append (at3 (noteW wa p.toNat x) p.toNat x) [-1])) = noteW wa p.toNat (x + 1) := by
      show _ = if x = p.toNat then _ else _
      rw [if_neg (by omega)]
    exact ⟨by omega, by omega, h0, by omega, h0, by omega, by omega, by omega, by simp only [List.length_singleton]; omega, by omega, by omega, ⟨h0, by omega⟩, inK_i64.2 (by omega), x + 1, by omega, by omega, by omega, w5⟩
  · have w5 : noteW wa p.toNat x = noteW wa p.toNat (x + 1) := by
      show _ = if x = p.toNat then _ else _
      rw [if_pos (by omega)]
    exact ⟨inK_i64.2 (by omega), x + 1, by omega, by omega, by omega, w5⟩
  · have : x = mo.length := by omega
    subst this
    exact hk
theorem okNote : OwnOk Try.prog glK 34 oNote := by
  refine own_of (CxOk.mk' Et_ok rfl mixed (gl := glK) GOk.nil GoOk.nil noIt) Try.func34 (c := Try.f34.body.getD .skip) (rvs := []) (by kernel_rfl) (by kernel_rfl) (by kernel_rfl) ?_
  intro args ob k h hw1 hw2
  clear hw1 hw2
  unfold oNote at h
  split at h
  · obtain ⟨⟨S, h0, h1⟩, hk⟩ := h
    exact ⟨anNote ⟨_, _, _, _, _, _⟩ _, note_vc _ _ _ _ _ _ _ k S h0 h1 hk⟩
  · exact h.elim
theorem come_vc (mo : List Int) (wa : L3) (no : List Int) (he : B2) (ca : L2) (bg : Bool) (n f t : Int) (k : SV → List Ob → Prop) (S : BkS ⟨mo, wa, no, he, ca, bg⟩) (hn : -1000000000 ≤ n ∧ n ≤ 1000000000) (hf : 0 ≤ f ∧ f < (mo.length : Int)) (ht : 0 ≤ t ∧ t < (mo.length : Int))
    (hk : k (.tp []) (bob (comeF ⟨mo, wa, no, he, ca, bg⟩ n f.toNat t.toNat))) :
    vcO ⟨Et, [], glK, [], [(34, oNote)]⟩ [joinAll] (Try.f35.body.getD .skip) Try.f35.ntmps [] [.ps 0, .d I n, .d I f, .d I t] (bob ⟨mo, wa, no, he, ca, bg⟩) k := by
  rw [vcCome]
  have T : t.toNat < mo.length := by omega
  have F : f.toNat < mo.length := by omega
  have hno : no.length = mo.length := S.no
  have n5 : mo.length ≤ 5 := S.n5
  have h1 : he.length = mo.length := S.he
  have h2 : (he.getD t.toNat []).length = mo.length := S.he2 _ T
  have c1 : ca.length = mo.length := S.ca
  have c2 : (ca.getD t.toNat []).length = mo.length := S.ca2 _ T
  have mb : -1000000000 ≤ mo.getD t.toNat 0 ∧ mo.getD t.toNat 0 ≤ 1000000000 := S.mb _ T
  have cb : -1000000000 ≤ (ca.getD t.toNat []).getD f.toNat 0 ∧ (ca.getD t.toNat []).getD f.toNat 0 ≤ 1000000000 := S.cb _ _ T F
  simp only [Int.toNat_natCast, and_true, true_and, decide_eq_true_eq, decide_eq_false_iff_not, Bool.not_eq_eq_eq_not, Bool.not_true, Bool.not_false]
  unfold comeF at hk
  refine ⟨fun hm => ?_, fun hm => ?_⟩
  · rw [if_pos hm] at hk
    refine ⟨ht.1, by omega, fun hlt => ?_, fun hlt => ?_⟩
    · rw [if_pos hlt] at hk
      exact ⟨⟨S, ht⟩, ht.1, by omega, by omega, by omega, hf.1, by omega, by omega, hk⟩
    · rw [if_neg hlt] at hk
      exact ⟨ht.1, by omega, by omega, by omega, hf.1, by omega, by omega, hk⟩
  · rw [if_neg hm] at hk
    refine ⟨ht.1, by omega, inK_i64.2 (by omega), ht.1, by omega, ht.1, by omega, fun h3 => ?_, fun h3 => ?_⟩
    · refine ⟨ht.1, by omega, by omega, by omega, hf.1, by omega, by omega, by omega, fun h4 => ?_, fun h4 => ?_⟩
      · rw [if_pos ⟨h3, h4⟩] at hk
        exact ⟨ht.1, by omega, by omega, by omega, hf.1, by omega, by omega, by omega, inK_i64.2 (by omega), by omega, hf.1, by omega, by omega, hk⟩
      · rw [if_neg (fun h => absurd (h4.symm.trans h.2) (by decide))] at hk
        exact hk
    · rw [if_neg (fun h => h3 h.1)] at hk
      exact hk
theorem okCome : OwnOk Try.prog glK 35 oCome := by
  refine own_of (CxOk.mk' Et_ok rfl mixed (gl := glK) GOk.nil (GoOk.cons okNote Try.func34 rfl rfl GoOk.nil) noIt) Try.func35 (c := Try.f35.body.getD .skip) (rvs := []) (by kernel_rfl) (by kernel_rfl) (by kernel_rfl) ?_
  intro args ob k h hw1 hw2
  clear hw1 hw2
  unfold oCome at h
  split at h
  · obtain ⟨⟨S, hn, hf, ht⟩, hk⟩ := h
    exact ⟨[joinAll], come_vc _ _ _ _ _ _ _ _ _ k S hn hf ht hk⟩
  · exact h.elim
theorem okComeC : OwnOk Try.prog glK 35 (clsC oCome) := own_cls okCome
theorem do_vc (mo : List Int) (wa : L3) (no : List Int) (he : B2) (ca : L2) (bg : Bool) (mk f t s : Int) (k : SV → List Ob → Prop) (S : BkS ⟨mo, wa, no, he, ca, bg⟩)
    (hk : k (.d tErr (doF ⟨mo, wa, no, he, ca, bg⟩ mk f t s).1) (bob (doF ⟨mo, wa, no, he, ca, bg⟩ mk f t s).2)) :
    vcO ⟨Et, [(29, cWithin)], glK, [], [(34, oNote), (35, clsC oCome)]⟩ (anDo f t) (Try.f23.body.getD .skip) Try.f23.ntmps [(.tmp 4, tErr)] [.ps 0, .d tMove (mk, f, t, s, ())] (bob ⟨mo, wa, no, he, ca, bg⟩) k := by
  rw [vcDo]
  have hno : no.length = mo.length := S.no
  have n5 : mo.length ≤ 5 := S.n5
  have n1 : 1 ≤ mo.length := S.n1
  have w1 : wa.length = mo.length := S.wa
  have e1 : ∀ v : Int, (List.replicate 1 (0 : Int)).set 0 v = [v] := fun _ => rfl
  simp only [Int.toNat_natCast, and_true, true_and, e1, decide_eq_true_eq, decide_eq_false_iff_not, Bool.not_eq_eq_eq_not, Bool.not_true, Bool.not_false]
  unfold doF at hk
  refine ⟨inK_i64.2 (by omega), fun h1 => ⟨by decide, ?_⟩, fun h1 => ⟨fun h2 => ⟨by decide, ?_⟩, fun h2 => ?_⟩⟩
  · rw [if_pos (.inl h1)] at hk; exact hk
  · rw [if_pos (.inr h2)] at hk; exact hk
  rw [if_neg (by rw [h1]; simp only [h2]; decide)] at hk
  have hf := inB_iff.1 h2
  have F : f.toNat < mo.length := by omega
  have w2 : (wa.getD f.toNat []).length = mo.length := S.wa2 _ F
  refine ⟨fun h3 => ?_, fun h3 => ?_⟩
  · rw [if_pos h3] at hk
    refine ⟨fun h4 => ⟨by decide, ?_⟩, fun h4 => ⟨⟨S, hf.1, by omega⟩, ?_⟩⟩
    · rw [if_pos h4] at hk; exact hk
    · rw [if_neg (by simp only [h4]; decide)] at hk; exact hk
  rw [if_neg h3] at hk
  refine ⟨fun h4 => ⟨by decide, ?_⟩, fun h4 => ?_⟩
  · rw [if_pos h4] at hk; exact hk
  rw [if_neg (by simp only [h4]; decide)] at hk
  have ht := inB_iff.1 h4
  have T : t.toNat < mo.length := by omega
  have vb : ∀ v, v ∈ at3 wa f.toNat t.toNat → -1000000000 ≤ v ∧ v ≤ 1000000000 := fun v => S.vb _ _ v F T
  have wk : ((wa.getD f.toNat []).getD t.toNat []).length ≤ 100000 := S.wk _ _ F T
  have ea : at3 wa f.toNat t.toNat = (wa.getD f.toNat []).getD t.toNat [] := rfl
  have mb : -1000000000 ≤ mo.getD f.toNat 0 ∧ mo.getD f.toNat 0 ≤ 1000000000 := S.mb _ F
  refine ⟨fun h5 => ⟨by decide, ?_⟩, fun h5 => ⟨⟨hf.1, by omega, by omega, by omega, ht.1, by omega, by omega, by omega⟩, fun h6 => ?_, fun h6 => ?_⟩⟩
  · rw [if_pos h5] at hk; exact hk
  · rw [if_neg h5, if_pos h6] at hk
    refine ⟨fun h7 => ⟨by decide, ?_⟩, fun h7 => ⟨⟨hf.1, by omega⟩, fun h8 => ⟨by decide, ?_⟩, fun h8 => ⟨by omega, by omega, fun h9 => ⟨by decide, ?_⟩, fun h9 => ?_⟩⟩⟩
    · rw [if_pos h7] at hk; exact hk
    · rw [if_neg (by simp only [h7]; decide), if_pos h8] at hk; exact hk
    · rw [if_neg (by simp only [h7]; decide), if_neg h8, if_pos (by rw [ea]; omega)] at hk; exact hk
    · have hs := inB_iff.1 h7
      rw [if_neg (by simp only [h7]; decide), if_neg h8, if_neg (by rw [ea]; omega)] at hk
      exact ⟨⟨hf.1, by omega, inK_i64.2 (by omega), hf.1, by omega⟩, by omega, by omega, hf.1, by omega, by simp only [List.length_singleton]; omega, ht.1, by omega, ⟨hf.1, by omega⟩, hk⟩
  · rw [if_neg h5, if_neg h6] at hk
    refine ⟨by omega, by omega, fun h7 => ⟨by decide, ?_⟩, fun h7 => ?_⟩
    · rw [if_pos (by rw [ea]; omega)] at hk; exact hk
    · rw [if_neg (by rw [ea]; omega)] at hk
      have hpos : 0 < ((wa.getD f.toNat []).getD t.toNat []).length := by omega
      have hmem : ((wa.getD f.toNat []).getD t.toNat []).getD 0 0 ∈ at3 wa f.toNat t.toNat := by
        exact getD_memL hpos 0
      have sq := (S.sw).wr (b := t.toNat) (((wa.getD f.toNat []).getD t.toNat []).drop 1) F
      have hat := fun i j => atG_wr S.sw (((wa.getD f.toNat []).getD t.toNat []).drop 1) [] F T i j
      have S' : BkS ⟨mo, wr3 wa f.toNat t.toNat ((at3 wa f.toNat t.toNat).drop 1), no, he, ca, bg⟩ := by
        refine ⟨S.n1, S.n5, S.no, sq.a, sq.b, fun i j hi hj => ?_, S.he, S.he2, S.ca, S.ca2, S.mb, S.cb, fun i j v hi hj hv => ?_⟩
        · have e : at3 (wr3 wa f.toNat t.toNat ((at3 wa f.toNat t.toNat).drop 1)) i j = _ := hat i j
          show (at3 (wr3 wa f.toNat t.toNat ((at3 wa f.toNat t.toNat).drop 1)) i j).length ≤ _
          rw [e]
          split
          · rw [List.length_drop]; omega
          · exact S.wk i j hi hj
        · have e : at3 (wr3 wa f.toNat t.toNat ((at3 wa f.toNat t.toNat).drop 1)) i j = _ := hat i j
          have hv : v ∈ at3 (wr3 wa f.toNat t.toNat ((at3 wa f.toNat t.toNat).drop 1)) i j := hv
          rw [e] at hv
          split at hv
          · exact vb v (List.mem_of_mem_drop hv)
          · exact S.vb i j v hi hj hv
      exact ⟨by omega, by omega, ⟨hf.1, by omega, ⟨by omega, by omega, hpos⟩, ht.1, by omega⟩, ⟨by omega, by omega⟩, ⟨S', vb _ hmem, ⟨hf.1, by omega⟩, ht.1, by omega⟩, hk⟩
theorem okDo : OwnOk Try.prog glK 23 oDo := by
  refine own_of (CxOk.mk' Et_ok rfl mixed (gl := glK) (GOk.cons okWithin Try.func29 rfl rfl GOk.nil) (GoOk.cons okNote Try.func34 rfl rfl (GoOk.cons okComeC Try.func35 rfl rfl GoOk.nil)) noIt) Try.func23 (c := Try.f23.body.getD .skip) (rvs := [(.tmp 4, tErr)]) (by kernel_rfl) (by kernel_rfl) (by kernel_rfl) ?_
  intro args ob k h hw1 hw2
  clear hw1 hw2
  unfold oDo at h
  split at h
  · rename_i m bg mo wa no he ca
    obtain ⟨S, hk⟩ := h
    obtain ⟨mk, f, t, s, ⟨⟩⟩ := m
    exact ⟨anDo f t, do_vc _ _ _ _ _ _ _ _ _ _ k S hk⟩
  · exact h.elim
theorem okClone : OwnOk Try.prog glK 33 oClone := by
  refine own_nilrowS (oc := fun args ob k => ∃ xs : List Int, xs.length ≤ 1000000 ∧ ((args = [.os 0] ∧ ob = [.row 3 I xs] ∧ (xs = [] → k .nils [.row 3 I xs]) ∧ k (.os 1) [.row 3 I xs, .row 3 I xs]) ∨
      (args = [.d (.sl I) xs] ∧ ob = [] ∧ (xs = [] → k .nils []) ∧ k (.os 0) [.row 3 I xs]))) ?_ 3 I ?_
  · refine own_of (CxOk.mk' Et_ok rfl mixed (gl := glK) GOk.nil GoOk.nil noIt) Try.func33 (c := Try.f33.body.getD .skip) (rvs := [(.tmp 2, .un)]) (by kernel_rfl) (by kernel_rfl) (by kernel_rfl) ?_
    rintro args ob k ⟨xs, hl, ⟨rfl, rfl, h1, h2⟩ | ⟨rfl, rfl, h1, h2⟩⟩ hw1 hw2
    · refine ⟨[], ?_⟩
      rw [vcClone]
      exact fun b hb => ⟨fun h => h1 (hb h), fun h => ⟨by simp only [List.length_nil]; omega, h2⟩⟩
    · refine ⟨[], ?_⟩
      rw [vcCloneD]
      exact fun b hb => ⟨fun h => h1 (hb h), fun h => ⟨by simp only [List.length_nil]; omega, h2⟩⟩
  · intro args ob k h
    unfold oClone at h
    split at h
    · rename_i xs
      obtain ⟨hl, hk⟩ := h
      refine ⟨[0, 1], by decide, fun i hi => ?_, xs, hl, .inl ⟨rfl, rfl, fun hx => ⟨show 1 ≤ 1 from by decide, ?_⟩, hk⟩⟩
      · have : i < 1 := hi
        have : i = 0 := by omega
        subst this; rfl
      · subst hx; exact hk
    · rename_i xs
      obtain ⟨hl, hk⟩ := h
      refine ⟨[0], by decide, fun i hi => ?_, xs, hl, .inr ⟨rfl, rfl, fun hx => ⟨show 0 ≤ 0 from by decide, ?_⟩, hk⟩⟩
      · have : i < 0 := hi
        omega
      · subst hx; exact hk
    · exact h.elim
theorem money_vc (mo : List Int) (wa : L3) (no : List Int) (he : B2) (ca : L2) (bg : Bool) (k : SV → List Ob → Prop) (hl : mo.length ≤ 5) (hk : k (.os 1) (bobR (.row 3 I mo) ⟨mo, wa, no, he, ca, bg⟩)) :
    vcO ⟨Et, [], glK, [], [(33, oClone)]⟩ [] (Try.f27.body.getD .skip) Try.f27.ntmps [(.tmp 2, .un)] [.ps 0] (bob ⟨mo, wa, no, he, ca, bg⟩) k := by
  rw [vcMoney]
  exact ⟨by omega, hk⟩
theorem okMoney : OwnOk Try.prog glK 27 oMoney := by
  refine own_of (CxOk.mk' Et_ok rfl mixed (gl := glK) GOk.nil (GoOk.cons okClone Try.func33 rfl rfl GoOk.nil) noIt) Try.func27 (c := Try.f27.body.getD .skip) (rvs := [(.tmp 2, .un)]) (by kernel_rfl) (by kernel_rfl) (by kernel_rfl) ?_
  intro args ob k h hw1 hw2
  clear hw1 hw2
  unfold oMoney at h
  split at h
  · obtain ⟨hl, hk⟩ := h
    exact ⟨[], money_vc _ _ _ _ _ _ k hl hk⟩
  · exact h.elim
theorem way_vc (mo : List Int) (wa : L3) (no : List Int) (he : B2) (ca : L2) (bg : Bool) (f t : Int) (k : SV → List Ob → Prop) (S : BkS ⟨mo, wa, no, he, ca, bg⟩)
    (h1 : (inB f 0 ((mo.length : Int) - 1) && inB t 0 ((mo.length : Int) - 1)) = false → k .nils (bob ⟨mo, wa, no, he, ca, bg⟩))
    (h2 : (inB f 0 ((mo.length : Int) - 1) && inB t 0 ((mo.length : Int) - 1)) = true → k (.os 1) (bobR (.row 3 I (at3 wa f.toNat t.toNat)) ⟨mo, wa, no, he, ca, bg⟩)) :
    vcO ⟨Et, [(29, cWithin)], glK, [], [(33, oClone)]⟩ (anWay f t) (Try.f26.body.getD .skip) Try.f26.ntmps [(.tmp 6, .un)] [.ps 0, .d I f, .d I t] (bob ⟨mo, wa, no, he, ca, bg⟩) k := by
  rw [vcWay]
  have n5 : mo.length ≤ 5 := S.n5
  have w1 : wa.length = mo.length := S.wa
  simp only [Int.toNat_natCast, and_true, true_and, decide_eq_true_eq, decide_eq_false_iff_not, Bool.not_eq_eq_eq_not, Bool.not_true, Bool.not_false]
  refine ⟨inK_i64.2 (by omega), fun h => h1 (by rw [h]; rfl), fun h => ⟨inK_i64.2 (by omega), fun h3 => h1 (by rw [h, h3]; rfl), fun h3 => ?_⟩⟩
  have hf := inB_iff.1 h
  have ht := inB_iff.1 h3
  have F : f.toNat < mo.length := by omega
  have T : t.toNat < mo.length := by omega
  have w2 : (wa.getD f.toNat []).length = mo.length := S.wa2 _ F
  have wk : ((wa.getD f.toNat []).getD t.toNat []).length ≤ 100000 := S.wk _ _ F T
  have e : wr3 wa f.toNat t.toNat (at3 wa f.toNat t.toNat) = wa := by
    unfold wr3 at3
    have e1 : (wa.getD f.toNat []).set t.toNat ((wa.getD f.toNat []).getD t.toNat []) = wa.getD f.toNat [] := set_getD_self _ _ _
    rw [e1]; exact set_getD_self _ _ _
  have e' : List.set wa f.toNat ((wa.getD f.toNat []).set t.toNat ((wa.getD f.toNat []).getD t.toNat [])) = wa := e
  rw [e']
  exact ⟨by omega, by omega, hf.1, by omega, ht.1, by omega, by omega, h2 (by rw [h, h3]; rfl)⟩
theorem okWay : OwnOk Try.prog glK 26 oWay := by
  refine own_nilrowS (oc := fun args ob k => ∃ (mo : List Int) (wa : L3) (no : List Int) (he : B2) (ca : L2) (bg : Bool) (f t : Int), args = [.ps 0, .d I f, .d I t] ∧ ob = bob ⟨mo, wa, no, he, ca, bg⟩ ∧ BkS ⟨mo, wa, no, he, ca, bg⟩ ∧
      ((inB f 0 ((mo.length : Int) - 1) && inB t 0 ((mo.length : Int) - 1)) = false → k .nils (bob ⟨mo, wa, no, he, ca, bg⟩)) ∧
      ((inB f 0 ((mo.length : Int) - 1) && inB t 0 ((mo.length : Int) - 1)) = true → k (.os 1) (bobR (.row 3 I (at3 wa f.toNat t.toNat)) ⟨mo, wa, no, he, ca, bg⟩))) ?_ 3 I ?_
  · refine own_of (CxOk.mk' Et_ok rfl mixed (gl := glK) (GOk.cons okWithin Try.func29 rfl rfl GOk.nil) (GoOk.cons okClone Try.func33 rfl rfl GoOk.nil) noIt) Try.func26 (c := Try.f26.body.getD .skip) (rvs := [(.tmp 6, .un)]) (by kernel_rfl) (by kernel_rfl) (by kernel_rfl) ?_
    rintro args ob k ⟨mo, wa, no, he, ca, bg, f, t, rfl, rfl, S, h1, h2⟩ hw1 hw2
    exact ⟨anWay f t, way_vc mo wa no he ca bg f t k S h1 h2⟩
  · intro args ob k h
    unfold oWay at h
    split at h
    · rename_i f t bg mo wa no he ca
      obtain ⟨S, hk⟩ := h
      refine ⟨[0, 6, 1, 2, 3, 4, 5], by decide, fun i hi => ?_, mo, wa, no, he, ca, bg, f, t, rfl, rfl, S, fun hb => ⟨show 1 ≤ 6 from by decide, ?_⟩, fun hb => ?_⟩
      · have : i < 1 := hi
        have : i = 0 := by omega
        subst this; rfl
      · unfold wayF at hk; rw [if_neg (by simp only [hb]; decide)] at hk; exact hk
      · unfold wayF at hk; rw [if_pos hb] at hk; exact hk
    · exact h.elim
theorem minL_snoc (l : List Int) (i : Nat) (h0 : 1 ≤ i) (h : i < l.length) : min (minL (l.take i)) (l.getD i 0) = minL (l.take (i + 1)) := by
  cases l with
  | nil => simp at h
  | cons x r =>
    obtain ⟨j, rfl⟩ := Nat.exists_eq_succ_of_ne_zero (show i ≠ 0 by omega)
    have hj : j < r.length := by simpa using h
    simp only [List.take_succ_cons, minL]
    rw [List.take_succ_eq_append_getElem hj, List.foldl_append]
    simp [hj]
theorem okMin : PlainOk Try.prog glK 31 cMin := by
  refine plain_of (CxOk.mk' Et_ok rfl mixed (gl := glK) GOk.nil GoOk.nil noIt) Try.func31 (c := Try.f31.body.getD .skip) (rvs := [(.tmp 2, I)]) (by kernel_rfl) (by kernel_rfl) (by kernel_rfl) ?_
  intro ds k ⟨hp, hk⟩ hwf
  obtain ⟨l, rfl, h1, h2⟩ := dest1 hp
  have hk : k [⟨I, minL l⟩] := hk
  refine ⟨anMin l, ?_⟩
  rw [vcMin]
  simp only [Int.toNat_natCast, and_true, true_and, decide_eq_true_eq, decide_eq_false_iff_not]
  refine ⟨fun h => by omega, fun _ => ⟨by omega, by omega, ⟨1, ⟨by omega, by omega⟩, ?_, by omega⟩, fun x ⟨hx1, hx2⟩ => ⟨fun h => ⟨by omega, h, inK_i64.2 (by omega), x + 1, ⟨by omega, by omega⟩, by omega, minL_snoc l x hx1 (by omega), by omega⟩, fun h => ?_⟩⟩⟩
  · cases l with
    | nil => simp at h1
    | cons y r => simp [minL]
  · have : x = l.length := by omega
    subst this
    rw [List.take_length]; exact hk
theorem new_vc (mo : List Int) (k : SV → List Ob → Prop) (h1 : newE mo = 0 → k (.tp [.ps 0, .d tErr (0 : Int)]) (bob (newB mo))) (h2 : newE mo ≠ 0 → k (.tp [.nilp, .d tErr (newE mo)]) []) :
    vcO ⟨EtN, [(29, cWithin)], glK, [], [(33, oClone)]⟩ (anNew mo) (Try.f21.body.getD .skip) Try.f21.ntmps [(.tmp 2, .un), (.tmp 3, tErr)] [.d (.sl I) mo] [] k := by
  rw [vcNew]
  have e1 : (List.replicate 1 (0 : Int)).set 0 (-1) = [-1] := rfl
  simp only [Int.toNat_natCast, and_true, true_and, e1, decide_eq_true_eq, decide_eq_false_iff_not, Bool.not_eq_eq_eq_not, Bool.not_true, Bool.not_false]
  refine ⟨fun h => ⟨by decide, ?_⟩, fun h => ⟨fun h3 => ⟨by decide, ?_⟩, fun h3 => ⟨⟨0, ⟨Nat.zero_le _, rfl⟩, rfl⟩, fun x ⟨hx, hok⟩ => ⟨fun hlt => ⟨by omega, hlt, fun hb => ⟨by decide, ?_⟩, fun hb => ⟨inK_i64.2 (by omega), x + 1, ⟨by omega, ?_⟩, by omega, by omega⟩⟩,
    fun hge => ⟨by omega, ⟨0, Nat.zero_le _, rfl, rfl, rfl, rfl, rfl⟩, fun y hy => ⟨fun hlt => ?_, fun hge2 => ?_⟩⟩⟩⟩⟩⟩
  · have e : newE mo = 5 := by unfold newE; rw [if_pos (by omega)]
    rw [e] at h2; exact h2 (by decide)
  · have e : newE mo = 4 := by unfold newE; rw [if_neg (by omega), if_pos (by omega)]
    rw [e] at h2; exact h2 (by decide)
  · have e : newE mo = 1 := by
      unfold newE; rw [if_neg (by omega), if_neg (by omega), if_neg]
      intro hm
      have hxl : x < mo.length := by omega
      have := List.all_eq_true.1 hm _ (getD_memL hxl 0)
      rw [hb] at this; cases this
    rw [e] at h2; exact h2 (by decide)
  · have hxl : x < mo.length := by omega
    unfold moOk at hok ⊢
    rw [List.take_succ_eq_append_getElem hxl, List.all_append, hok]
    rw [List.getD_eq_getElem?_getD, List.getElem?_eq_getElem hxl] at hb
    simpa using hb
  · have r1 : List.append (rowsW mo.length y) [List.replicate mo.length []] = rowsW mo.length (y + 1) := List.replicate_succ'.symm
    have r2 : List.append (List.replicate y (-1 : Int)) [-1] = List.replicate (y + 1) (-1) := List.replicate_succ'.symm
    have r3 : List.append (rowsH mo.length y) [List.replicate mo.length false] = rowsH mo.length (y + 1) := List.replicate_succ'.symm
    have r4 : List.append (rowsC mo.length y) [List.replicate mo.length 0] = rowsC mo.length (y + 1) := List.replicate_succ'.symm
    have l1 : (rowsW mo.length y).length = y := List.length_replicate
    have l3 : (rowsH mo.length y).length = y := List.length_replicate
    have l4 : (rowsC mo.length y).length = y := List.length_replicate
    exact ⟨by omega, by omega, by omega, by simp only [List.length_singleton]; omega, by simp only [List.length_replicate, List.length_singleton]; omega, by omega, by omega, by omega, by simp only [List.length_singleton]; omega, by omega, by omega, by omega, by simp only [List.length_singleton]; omega,
      inK_i64.2 (by omega), y + 1, by omega, by omega, by omega, r1, r2, r3, r4⟩
  · have hxn : x = mo.length := by omega
    have hyn : y = mo.length := by omega
    subst hyn
    rw [hxn, List.take_length] at hok
    have e : newE mo = 0 := by unfold newE; rw [if_neg (by omega), if_neg (by omega), if_pos hok]
    exact h1 e
theorem okNew : OwnOk Try.prog glK 21 oNew := by
  refine own_of (CxOk.mk' EtN_ok rfl mixed (gl := glK) (GOk.cons okWithin Try.func29 rfl rfl GOk.nil) (GoOk.cons okClone Try.func33 rfl rfl GoOk.nil) noIt) Try.func21 (c := Try.f21.body.getD .skip) (rvs := [(.tmp 2, .un), (.tmp 3, tErr)]) (by kernel_rfl) (by kernel_rfl) (by kernel_rfl) ?_
  intro args ob k h hw1 hw2
  clear hw1 hw2
  unfold oNew at h
  split at h
  · exact ⟨anNew _, new_vc _ k h.1 h.2⟩
  · exact h.elim
end Go.Proofs.Ytjgdpblaghhfhaa.N

/- Banks: what is noted, what there is in all; the laws' conditions. -/
namespace Go.Proofs.Ytjgdpblaghhfhaa.N
open Go.Vc
def sumL : List Int → Int
  | [] => 0
  | v :: r => v + sumL r
/-- what is paid, marks left out -/
def sumP : List Int → Int
  | [] => 0
  | v :: r => (if 0 < v then v else 0) + sumP r
def sumTo : Nat → (Nat → Int) → Int
  | 0, _ => 0
  | n + 1, f => sumTo n f + f n
def cSum : Ctr := cdet [.sl I] (fun (l : List Int) => l.length ≤ 100 ∧ ∀ v ∈ l, -1000000000 ≤ v ∧ v ≤ 1000000000) (fun (l : List Int) => [⟨I, sumL l⟩])
def anSum (l : List Int) : Ann := [joinAll, loopAt 3 Nat [] (fun st i => St.at (St.only st [0]) [(3, .d I (sumL (l.take i))), (4, .d I (i : Int))]) (fun _ i => i ≤ l.length ∧ True) (fun i => l.length - i)]
def cInts : Ctr := cdet [.sl I, .sl I] (fun (a b : List Int) => a.length ≤ 1000000 ∧ b.length ≤ 1000000) (fun (a b : List Int) => [⟨.bool, decide (a = b)⟩])
def anInts (a b : List Int) : Ann := [joinAll, loopAt 4 Nat [] (fun st i => St.at (St.only st [0, 1]) [(5, .d I (i : Int))]) (fun _ i => i ≤ a.length ∧ a.length = b.length ∧ a.take i = b.take i) (fun i => a.length - i)]
/-- did all marks come? -/
def doneR (b : Bk) (t : Nat) : Nat → Bool
  | 0 => true
  | j + 1 => doneR b t j && (j == t || at2b b.he t j)
def doneA (b : Bk) : Nat → Bool
  | 0 => true
  | t + 1 => doneA b t && doneR b t b.mo.length
def allF (b : Bk) : Bool := decide (0 ≤ minL b.no) && doneA b b.mo.length
def oNoted : OCtr := fun args ob k =>
  match args, ob with
  | [.ps 0], [.st 72 [.os 1, .os 2, .os 3, .os 4, .os 5, .d .bool bg], .row 3 (.int .i64) mo, .trow 36 oW wa, .row 3 (.int .i64) no, .trow 29 oH he, .trow 35 oR ca] =>
    BkS ⟨mo, wa, no, he, ca, bg⟩ ∧ (allF ⟨mo, wa, no, he, ca, bg⟩ = false → k (.tp [.nils, .nils, .d .bool false]) (bob ⟨mo, wa, no, he, ca, bg⟩)) ∧
      (allF ⟨mo, wa, no, he, ca, bg⟩ = true → k (.tp [.os 1, .os 2, .d .bool true]) [.st 72 [.os 3, .os 4, .os 5, .os 6, .os 7, .d .bool bg], .row 3 I no, .trow 35 oR ca, .row 3 I mo, .trow 36 oW wa, .row 3 I no, .trow 29 oH he, .trow 35 oR ca])
  | _, _ => False
def anNoted (b : Bk) : Ann :=
  [joinAll,
   loopAt 4 Nat [(3, 35, oR)] (fun st i => { St.at (St.only st [0, 17]) [(3, .os 6), (18, .d I (i : Int))] with ob := bob b ++ [.trow 35 oR (b.ca.take i)] }) (fun _ i => i ≤ b.mo.length ∧ doneA b i = true) (fun i => b.mo.length - i),
   openAt 6 [fun st => (5, (st.i 5).toNat, [])] [fun _ => 5],
   loopAt 8 Nat [] (fun st j => { St.at (St.only st [0, 5, 17, 18, 36]) [(3, .os 6), (37, .d I (j : Int))] with ob := bob b ++ [.trow 35 oR (b.ca.take ((st.i 5).toNat + 1))] }) (fun st j => j ≤ b.mo.length ∧ doneR b (st.i 5).toNat j = true) (fun j => b.mo.length - j)]
def waySum (b : Bk) (p q : Nat) : Int := sumP (at3 b.wa p q)
def rowSum (b : Bk) (p n : Nat) : Int := sumTo n (waySum b p)
def wholeF (b : Bk) : Int := sumL b.mo + sumTo b.mo.length (fun p => rowSum b p b.mo.length)
def oWhole : OCtr := fun args ob k =>
  match args, ob with
  | [.ps 0, .d (.int .i64) n], [.st 72 [.os 1, .os 2, .os 3, .os 4, .os 5, .d .bool bg], .row 3 (.int .i64) mo, .trow 36 oW wa, .row 3 (.int .i64) no, .trow 29 oH he, .trow 35 oR ca] =>
    (BkS ⟨mo, wa, no, he, ca, bg⟩ ∧ n = (mo.length : Int)) ∧ k (.d I (wholeF ⟨mo, wa, no, he, ca, bg⟩)) (bob ⟨mo, wa, no, he, ca, bg⟩)
  | _, _ => False
def anWhole (b : Bk) : Ann :=
  [joinAll,
   loopAt 3 Nat [] (fun st p => { St.at (St.only st [0, 1]) [(5, .d I (sumL b.mo + sumTo p (fun p => rowSum b p b.mo.length))), (6, .d I (p : Int))] with ob := bob b }) (fun _ p => p ≤ b.mo.length ∧ True) (fun p => b.mo.length - p),
   loopAt 6 Nat [] (fun st q => { St.at (St.only st [0, 1, 6]) [(5, .d I (sumL b.mo + sumTo (st.i 6).toNat (fun p => rowSum b p b.mo.length) + rowSum b (st.i 6).toNat q)), (7, .d I (q : Int))] with ob := bob b }) (fun _ q => q ≤ b.mo.length ∧ True) (fun q => b.mo.length - q),
   loopAt 10 Nat [] (fun st j => { St.at (St.only st [0, 1, 6, 7]) [(5, .d I (sumL b.mo + sumTo (st.i 6).toNat (fun p => rowSum b p b.mo.length) + rowSum b (st.i 6).toNat (st.i 7).toNat + sumP ((at3 b.wa (st.i 6).toNat (st.i 7).toNat).take j))), (8, .os 6), (9, .d I (j : Int))] with ob := bob b ++ [.row 3 I (at3 b.wa (st.i 6).toNat (st.i 7).toNat)] }) (fun st j => j ≤ (at3 b.wa (st.i 6).toNat (st.i 7).toNat).length ∧ True) (fun j => 1000000 - j)]
/-! The closed fact. -/
def b0 : Bk := ⟨[7, 2], [[[], []], [[], []]], [-1, -1], [[false, false], [false, false]], [[0, 0], [0, 0]], false⟩
def b1 : Bk := ⟨[4, 2], [[[], [3]], [[], []]], [-1, -1], [[false, false], [false, false]], [[0, 0], [0, 0]], false⟩
def b2 : Bk := ⟨[4, 2], [[[], [3]], [[-1], []]], [-1, 2], [[false, false], [false, false]], [[0, 0], [0, 0]], true⟩
def b3 : Bk := ⟨[4, 5], [[[], []], [[-1], []]], [-1, 2], [[false, false], [false, false]], [[0, 0], [3, 0]], true⟩
def anFact : Ann :=
  [joinAll,
   meetAt 4 Nat [] (fun st _ => { St.at (St.only st []) [(1, .ps 0)] with ob := bob b0 }) (fun _ _ => True),
   meetAt 5 Nat [] (fun st _ => { St.at (St.only st []) [(1, .ps 0), (3, .d tErr (0 : Int))] with ob := bob b1 }) (fun _ _ => True),
   meetAt 6 Nat [] (fun st _ => { St.at (St.only st []) [(1, .ps 0), (3, .d tErr (0 : Int)), (4, .d tErr (0 : Int))] with ob := bob b2 }) (fun _ _ => True),
   meetAt 7 Nat [] (fun st _ => { St.at (St.only st []) [(1, .ps 0), (3, .d tErr (0 : Int)), (4, .d tErr (0 : Int)), (5, .d tErr (0 : Int))] with ob := bob b3 }) (fun _ _ => True)]
def cFact : Ctr := cdet [] True [⟨.bool, true⟩]
/-! The laws. -/
abbrev Mv : Type := Int × Int × Int × Int × Unit
def stepB (b : Bk) (m : Mv) : Bk := (doF b m.1 m.2.1 m.2.2.1 m.2.2.2.1).2
def bAt (mo : List Int) (mv : List Mv) (i : Nat) : Bk := (mv.take i).foldl stepB (newB mo)
def anKeeps (mo : List Int) (mv : List Mv) : Ann :=
  [joinAll, loopAt 9 Nat [] (fun st i => { St.at (St.only st [0, 1, 8]) [(6, .ps 0), (9, .d I (i : Int))] with ob := bob (bAt mo mv i) }) (fun _ i => (i ≤ mv.length ∧ i ≤ 100) ∧ newE mo = 0) (fun i => 100 - i)]
end Go.Proofs.Ytjgdpblaghhfhaa.N

/- What the functions of this seat have to satisfy, by program: each verification condition in plain words. -/
namespace Go.Proofs.Ytjgdpblaghhfhaa
open Go.Vc Go.Proofs.Ytjgdpblaghhfhaa.N
set_option linter.unusedVariables false
theorem vcSum (l : List Int) (k : List Dat → Prop) : vcF ⟨Et, [], glK, [], []⟩ (anSum l) (Try.f22.body.getD .skip) Try.f22.ntmps [(.tmp 2, I)] [⟨.sl I, l⟩] k = (
  (∃ (x : Nat), (x ≤ l.length ∧ True) ∧ (l = l ∧ (0 : Int) = sumL (List.take x l) ∧ (0 : Int) = (↑x : Int) ∧ True) ∧ True ∧ True) ∧ ∀ (x : Nat), x ≤ l.length ∧ True → (decide ((↑x : Int) < (↑l.length : Int)) = true → (0 : Int) ≤ (↑x : Int) ∧ (↑x : Int) < (↑l.length : Int) ∧ inK IntKind.i64 (sumL (List.take x l) + l.getD (↑x : Int).toNat (0 : Int)) ∧ inK IntKind.i64 ((↑x : Int) + (1 : Int)) ∧ ∃ (x_1 : Nat), (x_1 ≤ l.length ∧ True) ∧ l.length - x_1 < l.length - x ∧ (l = l ∧ sumL (List.take x l) + l.getD (↑x : Int).toNat (0 : Int) = sumL (List.take x_1 l) ∧ (↑x : Int) + (1 : Int) = (↑x_1 : Int) ∧ True) ∧ True ∧ True) ∧ (decide ((↑x : Int) < (↑l.length : Int)) = false → k [Dat.mk (I) (sumL (List.take x l))])) := by kernel_rfl
theorem vcInts (a b : List Int) (k : List Dat → Prop) : vcF ⟨Et, [], glK, [], []⟩ (anInts a b) (Try.f32.body.getD .skip) Try.f32.ntmps [(.tmp 4, .bool)] [⟨.sl I, a⟩, ⟨.sl I, b⟩] k = (
  ((!decide ((↑a.length : Int) = (↑b.length : Int))) = true → k [Dat.mk Ty.bool false]) ∧ ((!decide ((↑a.length : Int) = (↑b.length : Int))) = false → (∃ (x : Nat), (x ≤ a.length ∧ a.length = b.length ∧ List.take x a = List.take x b) ∧ (a = a ∧ b = b ∧ (0 : Int) = (↑x : Int) ∧ True) ∧ True ∧ True) ∧ ∀ (x : Nat), x ≤ a.length ∧ a.length = b.length ∧ List.take x a = List.take x b → (decide ((↑x : Int) < (↑a.length : Int)) = true → ((0 : Int) ≤ (↑x : Int) ∧ (↑x : Int) < (↑a.length : Int) ∧ (0 : Int) ≤ (↑x : Int) ∧ (↑x : Int) < (↑b.length : Int) ∧ True) ∧ ((!decide (a.getD (↑x : Int).toNat (0 : Int) = b.getD (↑x : Int).toNat (0 : Int))) = true → k [Dat.mk Ty.bool false]) ∧ ((!decide (a.getD (↑x : Int).toNat (0 : Int) = b.getD (↑x : Int).toNat (0 : Int))) = false → inK IntKind.i64 ((↑x : Int) + (1 : Int)) ∧ ∃ (x_1 : Nat), (x_1 ≤ a.length ∧ a.length = b.length ∧ List.take x_1 a = List.take x_1 b) ∧ a.length - x_1 < a.length - x ∧ (a = a ∧ b = b ∧ (↑x : Int) + (1 : Int) = (↑x_1 : Int) ∧ True) ∧ True ∧ True)) ∧ (decide ((↑x : Int) < (↑a.length : Int)) = false → k [Dat.mk Ty.bool true]))) := by kernel_rfl
theorem vcNoted (mo : List Int) (wa : L3) (no : List Int) (he : B2) (ca : L2) (bg : Bool) (k : SV → List Ob → Prop) : vcO ⟨Et, [(31, cMin)], glK, [], [(33, oClone)]⟩ (anNoted ⟨mo, wa, no, he, ca, bg⟩) (Try.f25.body.getD .skip) Try.f25.ntmps [(.tmp 2, .un), (.tmp 3, .un), (.tmp 4, .bool)] [.ps 0] (bob ⟨mo, wa, no, he, ca, bg⟩) k = (
  ((1 : Nat) ≤ no.length ∧ no.length ≤ (1000 : Nat)) ∧ (decide (minL no < (0 : Int)) = true → k (SV.tp [SV.nils, SV.nils, SV.d Ty.bool false]) [Ob.st (72 : Nat) [SV.os (1 : Nat), SV.os (2 : Nat), SV.os (3 : Nat), SV.os (4 : Nat), SV.os (5 : Nat), SV.d Ty.bool bg], Ob.row (3 : Nat) (I) mo, Ob.trow (36 : Nat) (Ot.sl (35 : Nat) (Ot.sl (3 : Nat) (Ot.d (I)))) wa, Ob.row (3 : Nat) (I) no, Ob.trow (29 : Nat) (Ot.sl (4 : Nat) (Ot.d Ty.bool)) he, Ob.trow (35 : Nat) (Ot.sl (3 : Nat) (Ot.d (I))) ca]) ∧ (decide (minL no < (0 : Int)) = false → (∃ (x : Nat), (x ≤ mo.length ∧ doneA (Bk.mk mo wa no he ca bg) x = true) ∧ (True ∧ True ∧ (↑mo.length : Int) = (↑mo.length : Int) ∧ (0 : Int) = (↑x : Int) ∧ True) ∧ ((True ∧ True ∧ True ∧ True ∧ True ∧ bg = bg ∧ True) ∧ ((3 : Nat) = (3 : Nat) ∧ mo = mo) ∧ wa = wa ∧ ((3 : Nat) = (3 : Nat) ∧ no = no) ∧ he = he ∧ ca = ca ∧ [] = List.take x ca ∧ True) ∧ True ∧ True) ∧ ∀ (x : Nat), x ≤ mo.length ∧ doneA (Bk.mk mo wa no he ca bg) x = true → (decide ((↑x : Int) < (↑mo.length : Int)) = true → (↑x : Int).toNat < (ca).length ∧ (0 : Int) ≤ (↑x : Int) ∧ (↑x : Int) < (↑(List.length ca) : Int) ∧ (↑x : Int).toNat = (↑x : Int).toNat ∧ ((ca).getD (↑x : Int).toNat []).length ≤ (1000000 : Nat) ∧ (List.take x ca).length + [(ca).getD (↑x : Int).toNat []].length ≤ (1000000000 : Nat) ∧ (∃ (x_1 : Nat), (x_1 ≤ mo.length ∧ doneR (Bk.mk mo wa no he ca bg) (↑x : Int).toNat x_1 = true) ∧ (True ∧ True ∧ (↑x : Int) = (↑x : Int) ∧ (↑mo.length : Int) = (↑mo.length : Int) ∧ (↑x : Int) = (↑x : Int) ∧ (↑mo.length : Int) = (↑mo.length : Int) ∧ (0 : Int) = (↑x_1 : Int) ∧ True) ∧ ((True ∧ True ∧ True ∧ True ∧ True ∧ bg = bg ∧ True) ∧ ((3 : Nat) = (3 : Nat) ∧ mo = mo) ∧ wa = wa ∧ ((3 : Nat) = (3 : Nat) ∧ no = no) ∧ he = he ∧ (ca).set (↑x : Int).toNat ((ca).getD (↑x : Int).toNat []) = ca ∧ (List.take x ca).append [(ca).getD (↑x : Int).toNat []] = List.take ((↑x : Int).toNat + (1 : Nat)) ca ∧ True) ∧ True ∧ True) ∧ ∀ (x_1 : Nat), x_1 ≤ mo.length ∧ doneR (Bk.mk mo wa no he ca bg) (↑x : Int).toNat x_1 = true → (decide ((↑x_1 : Int) < (↑mo.length : Int)) = true → ((!decide ((↑x_1 : Int) = (↑x : Int))) = true → (0 : Int) ≤ (↑x : Int) ∧ (↑x : Int) < (↑(List.length he) : Int) ∧ (↑x : Int).toNat < List.length he ∧ (↑x : Int).toNat < (he).length ∧ (0 : Int) ≤ (↑x_1 : Int) ∧ (↑x_1 : Int) < (↑((he).getD (↑x : Int).toNat []).length : Int) ∧ (↑x : Int).toNat < (he).length ∧ (↑x_1 : Int).toNat < ((he).getD (↑x : Int).toNat []).length ∧ ((!((he).getD (↑x : Int).toNat []).getD (↑x_1 : Int).toNat false) = true → k (SV.tp [SV.nils, SV.nils, SV.d Ty.bool false]) [Ob.st (72 : Nat) [SV.os (1 : Nat), SV.os (2 : Nat), SV.os (3 : Nat), SV.os (4 : Nat), SV.os (5 : Nat), SV.d Ty.bool bg], Ob.row (3 : Nat) (I) mo, Ob.trow (36 : Nat) (Ot.sl (35 : Nat) (Ot.sl (3 : Nat) (Ot.d (I)))) wa, Ob.row (3 : Nat) (I) no, Ob.trow (29 : Nat) (Ot.sl (4 : Nat) (Ot.d Ty.bool)) he, Ob.trow (35 : Nat) (Ot.sl (3 : Nat) (Ot.d (I))) ca]) ∧ ((!((he).getD (↑x : Int).toNat []).getD (↑x_1 : Int).toNat false) = false → inK IntKind.i64 ((↑x_1 : Int) + (1 : Int)) ∧ ∃ (x_2 : Nat), (x_2 ≤ mo.length ∧ doneR (Bk.mk mo wa no he ca bg) (↑x : Int).toNat x_2 = true) ∧ mo.length - x_2 < mo.length - x_1 ∧ (True ∧ True ∧ (↑x : Int) = (↑x : Int) ∧ (↑mo.length : Int) = (↑mo.length : Int) ∧ (↑x : Int) = (↑x : Int) ∧ (↑mo.length : Int) = (↑mo.length : Int) ∧ (↑x_1 : Int) + (1 : Int) = (↑x_2 : Int) ∧ True) ∧ ((True ∧ True ∧ True ∧ True ∧ True ∧ bg = bg ∧ True) ∧ ((3 : Nat) = (3 : Nat) ∧ mo = mo) ∧ wa = wa ∧ ((3 : Nat) = (3 : Nat) ∧ no = no) ∧ he = he ∧ ca = ca ∧ List.take ((↑x : Int).toNat + (1 : Nat)) ca = List.take ((↑x : Int).toNat + (1 : Nat)) ca ∧ True) ∧ True ∧ True)) ∧ ((!decide ((↑x_1 : Int) = (↑x : Int))) = false → inK IntKind.i64 ((↑x_1 : Int) + (1 : Int)) ∧ ∃ (x_2 : Nat), (x_2 ≤ mo.length ∧ doneR (Bk.mk mo wa no he ca bg) (↑x : Int).toNat x_2 = true) ∧ mo.length - x_2 < mo.length - x_1 ∧ (True ∧ True ∧ (↑x : Int) = (↑x : Int) ∧ (↑mo.length : Int) = (↑mo.length : Int) ∧ (↑x : Int) = (↑x : Int) ∧ (↑mo.length : Int) = (↑mo.length : Int) ∧ (↑x_1 : Int) + (1 : Int) = (↑x_2 : Int) ∧ True) ∧ ((True ∧ True ∧ True ∧ True ∧ True ∧ bg = bg ∧ True) ∧ ((3 : Nat) = (3 : Nat) ∧ mo = mo) ∧ wa = wa ∧ ((3 : Nat) = (3 : Nat) ∧ no = no) ∧ he = he ∧ ca = ca ∧ List.take ((↑x : Int).toNat + (1 : Nat)) ca = List.take ((↑x : Int).toNat + (1 : Nat)) ca ∧ True) ∧ True ∧ True)) ∧ (decide ((↑x_1 : Int) < (↑mo.length : Int)) = false → inK IntKind.i64 ((↑x : Int) + (1 : Int)) ∧ ∃ (x_2 : Nat), (x_2 ≤ mo.length ∧ doneA (Bk.mk mo wa no he ca bg) x_2 = true) ∧ mo.length - x_2 < mo.length - x ∧ (True ∧ True ∧ (↑mo.length : Int) = (↑mo.length : Int) ∧ (↑x : Int) + (1 : Int) = (↑x_2 : Int) ∧ True) ∧ ((True ∧ True ∧ True ∧ True ∧ True ∧ bg = bg ∧ True) ∧ ((3 : Nat) = (3 : Nat) ∧ mo = mo) ∧ wa = wa ∧ ((3 : Nat) = (3 : Nat) ∧ no = no) ∧ he = he ∧ ca = ca ∧ List.take ((↑x : Int).toNat + (1 : Nat)) ca = List.take x_2 ca ∧ True) ∧ True ∧ True)) ∧ (decide ((↑x : Int) < (↑mo.length : Int)) = false → no.length ≤ (1000000 : Nat) ∧ k (SV.tp [SV.os (1 : Nat), SV.os (2 : Nat), SV.d Ty.bool true]) [Ob.st (72 : Nat) [SV.os (3 : Nat), SV.os (4 : Nat), SV.os (5 : Nat), SV.os (6 : Nat), SV.os (7 : Nat), SV.d Ty.bool bg], Ob.row (3 : Nat) (I) no, Ob.trow (35 : Nat) (Ot.sl (3 : Nat) (Ot.d (I))) (List.take x ca), Ob.row (3 : Nat) (I) mo, Ob.trow (36 : Nat) (Ot.sl (35 : Nat) (Ot.sl (3 : Nat) (Ot.d (I)))) wa, Ob.row (3 : Nat) (I) no, Ob.trow (29 : Nat) (Ot.sl (4 : Nat) (Ot.d Ty.bool)) he, Ob.trow (35 : Nat) (Ot.sl (3 : Nat) (Ot.d (I))) ca]))) := by kernel_rfl
theorem vcWhole (mo : List Int) (wa : L3) (no : List Int) (he : B2) (ca : L2) (bg : Bool) (n : Int) (k : SV → List Ob → Prop) : vcO ⟨Et, [(22, cSum)], glK, [], [(27, oMoney), (26, oWay)]⟩ (anWhole ⟨mo, wa, no, he, ca, bg⟩) (Try.f24.body.getD .skip) Try.f24.ntmps [(.tmp 4, I)] [.ps 0, .d I n] (bob ⟨mo, wa, no, he, ca, bg⟩) k = (
  mo.length ≤ (5 : Nat) ∧ (mo.length ≤ (100 : Nat) ∧ ∀ (v : Int), v ∈ mo → (-1000000000 : Int) ≤ v ∧ v ≤ (1000000000 : Int)) ∧ (∃ (x : Nat), (x ≤ mo.length ∧ True) ∧ (True ∧ n = n ∧ (sumL mo = sumL mo + sumTo x fun (p : Nat) => rowSum (Bk.mk mo wa no he ca bg) p mo.length) ∧ (0 : Int) = (↑x : Int) ∧ True) ∧ ((True ∧ True ∧ True ∧ True ∧ True ∧ bg = bg ∧ True) ∧ ((3 : Nat) = (3 : Nat) ∧ mo = mo) ∧ wa = wa ∧ ((3 : Nat) = (3 : Nat) ∧ no = no) ∧ he = he ∧ ca = ca ∧ True) ∧ True ∧ n = n ∧ True) ∧ ∀ (x : Nat), x ≤ mo.length ∧ True → (decide ((↑x : Int) < n) = true → (∃ (x_1 : Nat), (x_1 ≤ mo.length ∧ True) ∧ (True ∧ n = n ∧ (sumL mo + sumTo x fun (p : Nat) => rowSum (Bk.mk mo wa no he ca bg) p mo.length) = (sumL mo + sumTo (↑x : Int).toNat fun (p : Nat) => rowSum (Bk.mk mo wa no he ca bg) p mo.length) + rowSum (Bk.mk mo wa no he ca bg) (↑x : Int).toNat x_1 ∧ (↑x : Int) = (↑x : Int) ∧ (0 : Int) = (↑x_1 : Int) ∧ True) ∧ ((True ∧ True ∧ True ∧ True ∧ True ∧ bg = bg ∧ True) ∧ ((3 : Nat) = (3 : Nat) ∧ mo = mo) ∧ wa = wa ∧ ((3 : Nat) = (3 : Nat) ∧ no = no) ∧ he = he ∧ ca = ca ∧ True) ∧ True ∧ n = n ∧ True) ∧ ∀ (x_1 : Nat), x_1 ≤ mo.length ∧ True → (decide ((↑x_1 : Int) < n) = true → BkS (Bk.mk mo wa no he ca bg) ∧ (∃ (x_2 : Nat), (x_2 ≤ (at3 wa (↑x : Int).toNat (↑x_1 : Int).toNat).length ∧ True) ∧ (True ∧ n = n ∧ (sumL mo + sumTo (↑x : Int).toNat fun (p : Nat) => rowSum (Bk.mk mo wa no he ca bg) p mo.length) + rowSum (Bk.mk mo wa no he ca bg) (↑x : Int).toNat x_1 = (sumL mo + sumTo (↑x : Int).toNat fun (p : Nat) => rowSum (Bk.mk mo wa no he ca bg) p mo.length) + rowSum (Bk.mk mo wa no he ca bg) (↑x : Int).toNat (↑x_1 : Int).toNat + sumP (List.take x_2 (at3 wa (↑x : Int).toNat (↑x_1 : Int).toNat)) ∧ (↑x : Int) = (↑x : Int) ∧ (↑x_1 : Int) = (↑x_1 : Int) ∧ True ∧ (0 : Int) = (↑x_2 : Int) ∧ True) ∧ ((True ∧ True ∧ True ∧ True ∧ True ∧ bg = bg ∧ True) ∧ ((3 : Nat) = (3 : Nat) ∧ mo = mo) ∧ wa = wa ∧ ((3 : Nat) = (3 : Nat) ∧ no = no) ∧ he = he ∧ ca = ca ∧ ((3 : Nat) = (3 : Nat) ∧ wayF (Bk.mk mo wa no he ca bg) (↑x : Int) (↑x_1 : Int) = at3 wa (↑x : Int).toNat (↑x_1 : Int).toNat) ∧ True) ∧ True ∧ n = n ∧ True) ∧ ∀ (x_2 : Nat), x_2 ≤ (at3 wa (↑x : Int).toNat (↑x_1 : Int).toNat).length ∧ True → (decide ((↑x_2 : Int) < (↑(at3 wa (↑x : Int).toNat (↑x_1 : Int).toNat).length : Int)) = true → (0 : Int) ≤ (↑x_2 : Int) ∧ (↑x_2 : Int) < (↑(at3 wa (↑x : Int).toNat (↑x_1 : Int).toNat).length : Int) ∧ (decide ((0 : Int) < (at3 wa (↑x : Int).toNat (↑x_1 : Int).toNat).getD (↑x_2 : Int).toNat (0 : Int)) = true → (0 : Int) ≤ (↑x_2 : Int) ∧ (↑x_2 : Int) < (↑(at3 wa (↑x : Int).toNat (↑x_1 : Int).toNat).length : Int) ∧ inK IntKind.i64 ((sumL mo + sumTo (↑x : Int).toNat fun (p : Nat) => rowSum (Bk.mk mo wa no he ca bg) p mo.length) + rowSum (Bk.mk mo wa no he ca bg) (↑x : Int).toNat (↑x_1 : Int).toNat + sumP (List.take x_2 (at3 wa (↑x : Int).toNat (↑x_1 : Int).toNat)) + (at3 wa (↑x : Int).toNat (↑x_1 : Int).toNat).getD (↑x_2 : Int).toNat (0 : Int)) ∧ inK IntKind.i64 ((↑x_2 : Int) + (1 : Int)) ∧ ∃ (x_3 : Nat), (x_3 ≤ (at3 wa (↑x : Int).toNat (↑x_1 : Int).toNat).length ∧ True) ∧ (1000000 : Nat) - x_3 < (1000000 : Nat) - x_2 ∧ (True ∧ n = n ∧ (sumL mo + sumTo (↑x : Int).toNat fun (p : Nat) => rowSum (Bk.mk mo wa no he ca bg) p mo.length) + rowSum (Bk.mk mo wa no he ca bg) (↑x : Int).toNat (↑x_1 : Int).toNat + sumP (List.take x_2 (at3 wa (↑x : Int).toNat (↑x_1 : Int).toNat)) + (at3 wa (↑x : Int).toNat (↑x_1 : Int).toNat).getD (↑x_2 : Int).toNat (0 : Int) = (sumL mo + sumTo (↑x : Int).toNat fun (p : Nat) => rowSum (Bk.mk mo wa no he ca bg) p mo.length) + rowSum (Bk.mk mo wa no he ca bg) (↑x : Int).toNat (↑x_1 : Int).toNat + sumP (List.take x_3 (at3 wa (↑x : Int).toNat (↑x_1 : Int).toNat)) ∧ (↑x : Int) = (↑x : Int) ∧ (↑x_1 : Int) = (↑x_1 : Int) ∧ True ∧ (↑x_2 : Int) + (1 : Int) = (↑x_3 : Int) ∧ True) ∧ ((True ∧ True ∧ True ∧ True ∧ True ∧ bg = bg ∧ True) ∧ ((3 : Nat) = (3 : Nat) ∧ mo = mo) ∧ wa = wa ∧ ((3 : Nat) = (3 : Nat) ∧ no = no) ∧ he = he ∧ ca = ca ∧ ((3 : Nat) = (3 : Nat) ∧ at3 wa (↑x : Int).toNat (↑x_1 : Int).toNat = at3 wa (↑x : Int).toNat (↑x_1 : Int).toNat) ∧ True) ∧ True ∧ n = n ∧ True) ∧ (decide ((0 : Int) < (at3 wa (↑x : Int).toNat (↑x_1 : Int).toNat).getD (↑x_2 : Int).toNat (0 : Int)) = false → inK IntKind.i64 ((↑x_2 : Int) + (1 : Int)) ∧ ∃ (x_3 : Nat), (x_3 ≤ (at3 wa (↑x : Int).toNat (↑x_1 : Int).toNat).length ∧ True) ∧ (1000000 : Nat) - x_3 < (1000000 : Nat) - x_2 ∧ (True ∧ n = n ∧ (sumL mo + sumTo (↑x : Int).toNat fun (p : Nat) => rowSum (Bk.mk mo wa no he ca bg) p mo.length) + rowSum (Bk.mk mo wa no he ca bg) (↑x : Int).toNat (↑x_1 : Int).toNat + sumP (List.take x_2 (at3 wa (↑x : Int).toNat (↑x_1 : Int).toNat)) = (sumL mo + sumTo (↑x : Int).toNat fun (p : Nat) => rowSum (Bk.mk mo wa no he ca bg) p mo.length) + rowSum (Bk.mk mo wa no he ca bg) (↑x : Int).toNat (↑x_1 : Int).toNat + sumP (List.take x_3 (at3 wa (↑x : Int).toNat (↑x_1 : Int).toNat)) ∧ (↑x : Int) = (↑x : Int) ∧ (↑x_1 : Int) = (↑x_1 : Int) ∧ True ∧ (↑x_2 : Int) + (1 : Int) = (↑x_3 : Int) ∧ True) ∧ ((True ∧ True ∧ True ∧ True ∧ True ∧ bg = bg ∧ True) ∧ ((3 : Nat) = (3 : Nat) ∧ mo = mo) ∧ wa = wa ∧ ((3 : Nat) = (3 : Nat) ∧ no = no) ∧ he = he ∧ ca = ca ∧ ((3 : Nat) = (3 : Nat) ∧ at3 wa (↑x : Int).toNat (↑x_1 : Int).toNat = at3 wa (↑x : Int).toNat (↑x_1 : Int).toNat) ∧ True) ∧ True ∧ n = n ∧ True)) ∧ (decide ((↑x_2 : Int) < (↑(at3 wa (↑x : Int).toNat (↑x_1 : Int).toNat).length : Int)) = false → inK IntKind.i64 ((↑x_1 : Int) + (1 : Int)) ∧ ∃ (x_3 : Nat), (x_3 ≤ mo.length ∧ True) ∧ mo.length - x_3 < mo.length - x_1 ∧ (True ∧ n = n ∧ (sumL mo + sumTo (↑x : Int).toNat fun (p : Nat) => rowSum (Bk.mk mo wa no he ca bg) p mo.length) + rowSum (Bk.mk mo wa no he ca bg) (↑x : Int).toNat (↑x_1 : Int).toNat + sumP (List.take x_2 (at3 wa (↑x : Int).toNat (↑x_1 : Int).toNat)) = (sumL mo + sumTo (↑x : Int).toNat fun (p : Nat) => rowSum (Bk.mk mo wa no he ca bg) p mo.length) + rowSum (Bk.mk mo wa no he ca bg) (↑x : Int).toNat x_3 ∧ (↑x : Int) = (↑x : Int) ∧ (↑x_1 : Int) + (1 : Int) = (↑x_3 : Int) ∧ True) ∧ ((True ∧ True ∧ True ∧ True ∧ True ∧ bg = bg ∧ True) ∧ ((3 : Nat) = (3 : Nat) ∧ mo = mo) ∧ wa = wa ∧ ((3 : Nat) = (3 : Nat) ∧ no = no) ∧ he = he ∧ ca = ca ∧ True) ∧ True ∧ n = n ∧ True)) ∧ (decide ((↑x_1 : Int) < n) = false → inK IntKind.i64 ((↑x : Int) + (1 : Int)) ∧ ∃ (x_2 : Nat), (x_2 ≤ mo.length ∧ True) ∧ mo.length - x_2 < mo.length - x ∧ (True ∧ n = n ∧ ((sumL mo + sumTo (↑x : Int).toNat fun (p : Nat) => rowSum (Bk.mk mo wa no he ca bg) p mo.length) + rowSum (Bk.mk mo wa no he ca bg) (↑x : Int).toNat x_1 = sumL mo + sumTo x_2 fun (p : Nat) => rowSum (Bk.mk mo wa no he ca bg) p mo.length) ∧ (↑x : Int) + (1 : Int) = (↑x_2 : Int) ∧ True) ∧ ((True ∧ True ∧ True ∧ True ∧ True ∧ bg = bg ∧ True) ∧ ((3 : Nat) = (3 : Nat) ∧ mo = mo) ∧ wa = wa ∧ ((3 : Nat) = (3 : Nat) ∧ no = no) ∧ he = he ∧ ca = ca ∧ True) ∧ True ∧ n = n ∧ True)) ∧ (decide ((↑x : Int) < n) = false → k (SV.d (I) (sumL mo + sumTo x fun (p : Nat) => rowSum (Bk.mk mo wa no he ca bg) p mo.length)) [Ob.st (72 : Nat) [SV.os (1 : Nat), SV.os (2 : Nat), SV.os (3 : Nat), SV.os (4 : Nat), SV.os (5 : Nat), SV.d Ty.bool bg], Ob.row (3 : Nat) (I) mo, Ob.trow (36 : Nat) (Ot.sl (35 : Nat) (Ot.sl (3 : Nat) (Ot.d (I)))) wa, Ob.row (3 : Nat) (I) no, Ob.trow (29 : Nat) (Ot.sl (4 : Nat) (Ot.d Ty.bool)) he, Ob.trow (35 : Nat) (Ot.sl (3 : Nat) (Ot.d (I))) ca])) := by kernel_rfl
theorem vcFact (k : List Dat → Prop) : vcF ⟨Et, [(32, cInts)], glK, [], [(21, oNew), (23, oDo), (27, oMoney), (26, oWay)]⟩ anFact (Try.f20.body.getD .skip) Try.f20.ntmps [(.tmp 0, .bool)] [] k = (
  (newE (((List.replicate (2 : Nat) (0 : Int)).set (0 : Nat) (7 : Int)).set (1 : Nat) (2 : Int)) = (0 : Int) → (((!decide ((0 : Int) = (0 : Int))) = true → k [Dat.mk Ty.bool false]) ∧ ((!decide ((0 : Int) = (0 : Int))) = false → ∃ (x : Nat), True ∧ (True ∧ True) ∧ ((True ∧ True ∧ True ∧ True ∧ True ∧ false = false ∧ True) ∧ ((3 : Nat) = (3 : Nat) ∧ ((List.replicate (2 : Nat) (0 : Int)).set (0 : Nat) (7 : Int)).set (1 : Nat) (2 : Int) = [(7 : Int), (2 : Int)]) ∧ List.replicate (((List.replicate (2 : Nat) (0 : Int)).set (0 : Nat) (7 : Int)).set (1 : Nat) (2 : Int)).length (List.replicate (((List.replicate (2 : Nat) (0 : Int)).set (0 : Nat) (7 : Int)).set (1 : Nat) (2 : Int)).length []) = ([[[], []], [[], []]] : L3) ∧ ((3 : Nat) = (3 : Nat) ∧ List.replicate (((List.replicate (2 : Nat) (0 : Int)).set (0 : Nat) (7 : Int)).set (1 : Nat) (2 : Int)).length (-1 : Int) = [(-1 : Int), (-1 : Int)]) ∧ List.replicate (((List.replicate (2 : Nat) (0 : Int)).set (0 : Nat) (7 : Int)).set (1 : Nat) (2 : Int)).length (List.replicate (((List.replicate (2 : Nat) (0 : Int)).set (0 : Nat) (7 : Int)).set (1 : Nat) (2 : Int)).length false) = [[false, false], [false, false]] ∧ List.replicate (((List.replicate (2 : Nat) (0 : Int)).set (0 : Nat) (7 : Int)).set (1 : Nat) (2 : Int)).length (List.replicate (((List.replicate (2 : Nat) (0 : Int)).set (0 : Nat) (7 : Int)).set (1 : Nat) (2 : Int)).length (0 : Int)) = [[(0 : Int), (0 : Int)], [(0 : Int), (0 : Int)]] ∧ True) ∧ True)) ∧ ∀ (x : Nat), True → (BkS (Bk.mk [(7 : Int), (2 : Int)] ([[[], []], [[], []]] : L3) [(-1 : Int), (-1 : Int)] [[false, false], [false, false]] [[(0 : Int), (0 : Int)], [(0 : Int), (0 : Int)]] false) ∧ ∃ (x : Nat), True ∧ (True ∧ (0 : Int) = (0 : Int) ∧ True) ∧ ((True ∧ True ∧ True ∧ True ∧ True ∧ false = false ∧ True) ∧ ((3 : Nat) = (3 : Nat) ∧ [(7 : Int), (2 : Int)].set (Int.toNat (0 : Int)) ([(7 : Int), (2 : Int)].getD (Int.toNat (0 : Int)) (0 : Int) - (3 : Int)) = [(4 : Int), (2 : Int)]) ∧ wr3 ([[[], []], [[], []]] : L3) (Int.toNat (0 : Int)) (Int.toNat (1 : Int)) [(3 : Int)] = [[[], [(3 : Int)]], [[], []]] ∧ ((3 : Nat) = (3 : Nat) ∧ [(-1 : Int), (-1 : Int)] = [(-1 : Int), (-1 : Int)]) ∧ [[false, false], [false, false]] = [[false, false], [false, false]] ∧ [[(0 : Int), (0 : Int)], [(0 : Int), (0 : Int)]] = [[(0 : Int), (0 : Int)], [(0 : Int), (0 : Int)]] ∧ True) ∧ True) ∧ ∀ (x : Nat), True → (BkS (Bk.mk [(4 : Int), (2 : Int)] [[[], [(3 : Int)]], [[], []]] [(-1 : Int), (-1 : Int)] [[false, false], [false, false]] [[(0 : Int), (0 : Int)], [(0 : Int), (0 : Int)]] false) ∧ ∃ (x : Nat), True ∧ (True ∧ (0 : Int) = (0 : Int) ∧ (0 : Int) = (0 : Int) ∧ True) ∧ ((True ∧ True ∧ True ∧ True ∧ True ∧ true = true ∧ True) ∧ ((3 : Nat) = (3 : Nat) ∧ [(4 : Int), (2 : Int)] = [(4 : Int), (2 : Int)]) ∧ noteW [[[], [(3 : Int)]], [[], []]] (Int.toNat (1 : Int)) [(4 : Int), (2 : Int)].length = [[[], [(3 : Int)]], [[(-1 : Int)], []]] ∧ ((3 : Nat) = (3 : Nat) ∧ [(-1 : Int), (-1 : Int)].set (Int.toNat (1 : Int)) ([(4 : Int), (2 : Int)].getD (Int.toNat (1 : Int)) (0 : Int)) = [(-1 : Int), (2 : Int)]) ∧ [[false, false], [false, false]] = [[false, false], [false, false]] ∧ [[(0 : Int), (0 : Int)], [(0 : Int), (0 : Int)]] = [[(0 : Int), (0 : Int)], [(0 : Int), (0 : Int)]] ∧ True) ∧ True) ∧ ∀ (x : Nat), True → (BkS (Bk.mk [(4 : Int), (2 : Int)] [[[], [(3 : Int)]], [[(-1 : Int)], []]] [(-1 : Int), (2 : Int)] [[false, false], [false, false]] [[(0 : Int), (0 : Int)], [(0 : Int), (0 : Int)]] true) ∧ ∃ (x : Nat), True ∧ (True ∧ (0 : Int) = (0 : Int) ∧ (0 : Int) = (0 : Int) ∧ (0 : Int) = (0 : Int) ∧ True) ∧ ((True ∧ True ∧ True ∧ True ∧ True ∧ true = true ∧ True) ∧ ((3 : Nat) = (3 : Nat) ∧ [(4 : Int), (2 : Int)].set (Int.toNat (1 : Int)) ([(4 : Int), (2 : Int)].getD (Int.toNat (1 : Int)) (0 : Int) + (at3 [[[], [(3 : Int)]], [[(-1 : Int)], []]] (Int.toNat (0 : Int)) (Int.toNat (1 : Int))).getD (0 : Nat) (0 : Int)) = [(4 : Int), (5 : Int)]) ∧ wr3 [[[], [(3 : Int)]], [[(-1 : Int)], []]] (Int.toNat (0 : Int)) (Int.toNat (1 : Int)) (List.drop (1 : Nat) (at3 [[[], [(3 : Int)]], [[(-1 : Int)], []]] (Int.toNat (0 : Int)) (Int.toNat (1 : Int)))) = [[[], []], [[(-1 : Int)], []]] ∧ ((3 : Nat) = (3 : Nat) ∧ [(-1 : Int), (2 : Int)] = [(-1 : Int), (2 : Int)]) ∧ [[false, false], [false, false]] = [[false, false], [false, false]] ∧ (if (0 : Int) ≤ [(-1 : Int), (2 : Int)].getD (Int.toNat (1 : Int)) (0 : Int) ∧ at2b [[false, false], [false, false]] (Int.toNat (1 : Int)) (Int.toNat (0 : Int)) = false then wr2 [[(0 : Int), (0 : Int)], [(0 : Int), (0 : Int)]] (Int.toNat (1 : Int)) (Int.toNat (0 : Int)) (at2 [[(0 : Int), (0 : Int)], [(0 : Int), (0 : Int)]] (Int.toNat (1 : Int)) (Int.toNat (0 : Int)) + (at3 [[[], [(3 : Int)]], [[(-1 : Int)], []]] (Int.toNat (0 : Int)) (Int.toNat (1 : Int))).getD (0 : Nat) (0 : Int)) else [[(0 : Int), (0 : Int)], [(0 : Int), (0 : Int)]]) = [[(0 : Int), (0 : Int)], [(3 : Int), (0 : Int)]] ∧ True) ∧ True) ∧ ∀ (x : Nat), True → (decide ((0 : Int) = (0 : Int)) = true → (decide ((0 : Int) = (0 : Int)) = true → (decide ((0 : Int) = (0 : Int)) = true → [(4 : Int), (5 : Int)].length ≤ (5 : Nat) ∧ ([(4 : Int), (5 : Int)].length ≤ (1000000 : Nat) ∧ (((List.replicate (2 : Nat) (0 : Int)).set (0 : Nat) (4 : Int)).set (1 : Nat) (5 : Int)).length ≤ (1000000 : Nat)) ∧ (decide ([(4 : Int), (5 : Int)] = ((List.replicate (2 : Nat) (0 : Int)).set (0 : Nat) (4 : Int)).set (1 : Nat) (5 : Int)) = true → BkS (Bk.mk [(4 : Int), (5 : Int)] [[[], []], [[(-1 : Int)], []]] [(-1 : Int), (2 : Int)] [[false, false], [false, false]] [[(0 : Int), (0 : Int)], [(3 : Int), (0 : Int)]] true) ∧ ((wayF (Bk.mk [(4 : Int), (5 : Int)] [[[], []], [[(-1 : Int)], []]] [(-1 : Int), (2 : Int)] [[false, false], [false, false]] [[(0 : Int), (0 : Int)], [(3 : Int), (0 : Int)]] true) (1 : Int) (0 : Int)).length ≤ (1000000 : Nat) ∧ ((List.replicate (1 : Nat) (0 : Int)).set (0 : Nat) (-1 : Int)).length ≤ (1000000 : Nat)) ∧ k [Dat.mk Ty.bool (decide (wayF (Bk.mk [(4 : Int), (5 : Int)] [[[], []], [[(-1 : Int)], []]] [(-1 : Int), (2 : Int)] [[false, false], [false, false]] [[(0 : Int), (0 : Int)], [(3 : Int), (0 : Int)]] true) (1 : Int) (0 : Int) = (List.replicate (1 : Nat) (0 : Int)).set (0 : Nat) (-1 : Int)))]) ∧ (decide ([(4 : Int), (5 : Int)] = ((List.replicate (2 : Nat) (0 : Int)).set (0 : Nat) (4 : Int)).set (1 : Nat) (5 : Int)) = false → k [Dat.mk Ty.bool false])) ∧ (decide ((0 : Int) = (0 : Int)) = false → k [Dat.mk Ty.bool false])) ∧ (decide ((0 : Int) = (0 : Int)) = false → k [Dat.mk Ty.bool false])) ∧ (decide ((0 : Int) = (0 : Int)) = false → k [Dat.mk Ty.bool false])) ∧ (newE (((List.replicate (2 : Nat) (0 : Int)).set (0 : Nat) (7 : Int)).set (1 : Nat) (2 : Int)) ≠ (0 : Int) → (((!decide (newE (((List.replicate (2 : Nat) (0 : Int)).set (0 : Nat) (7 : Int)).set (1 : Nat) (2 : Int)) = (0 : Int))) = true → k [Dat.mk Ty.bool false]) ∧ ((!decide (newE (((List.replicate (2 : Nat) (0 : Int)).set (0 : Nat) (7 : Int)).set (1 : Nat) (2 : Int)) = (0 : Int))) = false → ∃ (x : Nat), True ∧ (False ∧ True) ∧ (False ∧ False ∧ False ∧ False ∧ False ∧ False ∧ True) ∧ True)) ∧ ∀ (x : Nat), True → (BkS (Bk.mk [(7 : Int), (2 : Int)] ([[[], []], [[], []]] : L3) [(-1 : Int), (-1 : Int)] [[false, false], [false, false]] [[(0 : Int), (0 : Int)], [(0 : Int), (0 : Int)]] false) ∧ ∃ (x : Nat), True ∧ (True ∧ (0 : Int) = (0 : Int) ∧ True) ∧ ((True ∧ True ∧ True ∧ True ∧ True ∧ false = false ∧ True) ∧ ((3 : Nat) = (3 : Nat) ∧ [(7 : Int), (2 : Int)].set (Int.toNat (0 : Int)) ([(7 : Int), (2 : Int)].getD (Int.toNat (0 : Int)) (0 : Int) - (3 : Int)) = [(4 : Int), (2 : Int)]) ∧ wr3 ([[[], []], [[], []]] : L3) (Int.toNat (0 : Int)) (Int.toNat (1 : Int)) [(3 : Int)] = [[[], [(3 : Int)]], [[], []]] ∧ ((3 : Nat) = (3 : Nat) ∧ [(-1 : Int), (-1 : Int)] = [(-1 : Int), (-1 : Int)]) ∧ [[false, false], [false, false]] = [[false, false], [false, false]] ∧ [[(0 : Int), (0 : Int)], [(0 : Int), (0 : Int)]] = [[(0 : Int), (0 : Int)], [(0 : Int), (0 : Int)]] ∧ True) ∧ True) ∧ ∀ (x : Nat), True → (BkS (Bk.mk [(4 : Int), (2 : Int)] [[[], [(3 : Int)]], [[], []]] [(-1 : Int), (-1 : Int)] [[false, false], [false, false]] [[(0 : Int), (0 : Int)], [(0 : Int), (0 : Int)]] false) ∧ ∃ (x : Nat), True ∧ (True ∧ (0 : Int) = (0 : Int) ∧ (0 : Int) = (0 : Int) ∧ True) ∧ ((True ∧ True ∧ True ∧ True ∧ True ∧ true = true ∧ True) ∧ ((3 : Nat) = (3 : Nat) ∧ [(4 : Int), (2 : Int)] = [(4 : Int), (2 : Int)]) ∧ noteW [[[], [(3 : Int)]], [[], []]] (Int.toNat (1 : Int)) [(4 : Int), (2 : Int)].length = [[[], [(3 : Int)]], [[(-1 : Int)], []]] ∧ ((3 : Nat) = (3 : Nat) ∧ [(-1 : Int), (-1 : Int)].set (Int.toNat (1 : Int)) ([(4 : Int), (2 : Int)].getD (Int.toNat (1 : Int)) (0 : Int)) = [(-1 : Int), (2 : Int)]) ∧ [[false, false], [false, false]] = [[false, false], [false, false]] ∧ [[(0 : Int), (0 : Int)], [(0 : Int), (0 : Int)]] = [[(0 : Int), (0 : Int)], [(0 : Int), (0 : Int)]] ∧ True) ∧ True) ∧ ∀ (x : Nat), True → (BkS (Bk.mk [(4 : Int), (2 : Int)] [[[], [(3 : Int)]], [[(-1 : Int)], []]] [(-1 : Int), (2 : Int)] [[false, false], [false, false]] [[(0 : Int), (0 : Int)], [(0 : Int), (0 : Int)]] true) ∧ ∃ (x : Nat), True ∧ (True ∧ (0 : Int) = (0 : Int) ∧ (0 : Int) = (0 : Int) ∧ (0 : Int) = (0 : Int) ∧ True) ∧ ((True ∧ True ∧ True ∧ True ∧ True ∧ true = true ∧ True) ∧ ((3 : Nat) = (3 : Nat) ∧ [(4 : Int), (2 : Int)].set (Int.toNat (1 : Int)) ([(4 : Int), (2 : Int)].getD (Int.toNat (1 : Int)) (0 : Int) + (at3 [[[], [(3 : Int)]], [[(-1 : Int)], []]] (Int.toNat (0 : Int)) (Int.toNat (1 : Int))).getD (0 : Nat) (0 : Int)) = [(4 : Int), (5 : Int)]) ∧ wr3 [[[], [(3 : Int)]], [[(-1 : Int)], []]] (Int.toNat (0 : Int)) (Int.toNat (1 : Int)) (List.drop (1 : Nat) (at3 [[[], [(3 : Int)]], [[(-1 : Int)], []]] (Int.toNat (0 : Int)) (Int.toNat (1 : Int)))) = [[[], []], [[(-1 : Int)], []]] ∧ ((3 : Nat) = (3 : Nat) ∧ [(-1 : Int), (2 : Int)] = [(-1 : Int), (2 : Int)]) ∧ [[false, false], [false, false]] = [[false, false], [false, false]] ∧ (if (0 : Int) ≤ [(-1 : Int), (2 : Int)].getD (Int.toNat (1 : Int)) (0 : Int) ∧ at2b [[false, false], [false, false]] (Int.toNat (1 : Int)) (Int.toNat (0 : Int)) = false then wr2 [[(0 : Int), (0 : Int)], [(0 : Int), (0 : Int)]] (Int.toNat (1 : Int)) (Int.toNat (0 : Int)) (at2 [[(0 : Int), (0 : Int)], [(0 : Int), (0 : Int)]] (Int.toNat (1 : Int)) (Int.toNat (0 : Int)) + (at3 [[[], [(3 : Int)]], [[(-1 : Int)], []]] (Int.toNat (0 : Int)) (Int.toNat (1 : Int))).getD (0 : Nat) (0 : Int)) else [[(0 : Int), (0 : Int)], [(0 : Int), (0 : Int)]]) = [[(0 : Int), (0 : Int)], [(3 : Int), (0 : Int)]] ∧ True) ∧ True) ∧ ∀ (x : Nat), True → (decide ((0 : Int) = (0 : Int)) = true → (decide ((0 : Int) = (0 : Int)) = true → (decide ((0 : Int) = (0 : Int)) = true → [(4 : Int), (5 : Int)].length ≤ (5 : Nat) ∧ ([(4 : Int), (5 : Int)].length ≤ (1000000 : Nat) ∧ (((List.replicate (2 : Nat) (0 : Int)).set (0 : Nat) (4 : Int)).set (1 : Nat) (5 : Int)).length ≤ (1000000 : Nat)) ∧ (decide ([(4 : Int), (5 : Int)] = ((List.replicate (2 : Nat) (0 : Int)).set (0 : Nat) (4 : Int)).set (1 : Nat) (5 : Int)) = true → BkS (Bk.mk [(4 : Int), (5 : Int)] [[[], []], [[(-1 : Int)], []]] [(-1 : Int), (2 : Int)] [[false, false], [false, false]] [[(0 : Int), (0 : Int)], [(3 : Int), (0 : Int)]] true) ∧ ((wayF (Bk.mk [(4 : Int), (5 : Int)] [[[], []], [[(-1 : Int)], []]] [(-1 : Int), (2 : Int)] [[false, false], [false, false]] [[(0 : Int), (0 : Int)], [(3 : Int), (0 : Int)]] true) (1 : Int) (0 : Int)).length ≤ (1000000 : Nat) ∧ ((List.replicate (1 : Nat) (0 : Int)).set (0 : Nat) (-1 : Int)).length ≤ (1000000 : Nat)) ∧ k [Dat.mk Ty.bool (decide (wayF (Bk.mk [(4 : Int), (5 : Int)] [[[], []], [[(-1 : Int)], []]] [(-1 : Int), (2 : Int)] [[false, false], [false, false]] [[(0 : Int), (0 : Int)], [(3 : Int), (0 : Int)]] true) (1 : Int) (0 : Int) = (List.replicate (1 : Nat) (0 : Int)).set (0 : Nat) (-1 : Int)))]) ∧ (decide ([(4 : Int), (5 : Int)] = ((List.replicate (2 : Nat) (0 : Int)).set (0 : Nat) (4 : Int)).set (1 : Nat) (5 : Int)) = false → k [Dat.mk Ty.bool false])) ∧ (decide ((0 : Int) = (0 : Int)) = false → k [Dat.mk Ty.bool false])) ∧ (decide ((0 : Int) = (0 : Int)) = false → k [Dat.mk Ty.bool false])) ∧ (decide ((0 : Int) = (0 : Int)) = false → k [Dat.mk Ty.bool false]))) := by kernel_rfl
theorem vcKeeps (mo : List Int) (mv : List Mv) (k : List Dat → Prop) : vcF ⟨Et, [(20, cFact), (22, cSum)], glK, [], [(21, oNew), (23, oDo), (24, oWhole)]⟩ (anKeeps mo mv) (Try.f7.body.getD .skip) Try.f7.ntmps [(.tmp 4, .bool)] [⟨.sl I, mo⟩, ⟨.sl tMove, mv⟩] k = (
  True ∧ ((!true) = true → k [Dat.mk Ty.bool false]) ∧ ((!true) = false → (newE mo = (0 : Int) → ((!decide ((0 : Int) = (0 : Int))) = true → k [Dat.mk Ty.bool true]) ∧ ((!decide ((0 : Int) = (0 : Int))) = false → (mo.length ≤ (100 : Nat) ∧ ∀ (v : Int), v ∈ mo → (-1000000000 : Int) ≤ v ∧ v ≤ (1000000000 : Int)) ∧ (∃ (x : Nat), ((x ≤ mv.length ∧ x ≤ (100 : Nat)) ∧ newE mo = (0 : Int)) ∧ (mo = mo ∧ mv = mv ∧ True ∧ sumL mo = sumL mo ∧ (0 : Int) = (↑x : Int) ∧ True) ∧ ((True ∧ True ∧ True ∧ True ∧ True ∧ false = (bAt mo mv x).bg ∧ True) ∧ ((3 : Nat) = (3 : Nat) ∧ mo = (bAt mo mv x).mo) ∧ List.replicate mo.length (List.replicate mo.length []) = (bAt mo mv x).wa ∧ ((3 : Nat) = (3 : Nat) ∧ List.replicate mo.length (-1 : Int) = (bAt mo mv x).no) ∧ List.replicate mo.length (List.replicate mo.length false) = (bAt mo mv x).he ∧ List.replicate mo.length (List.replicate mo.length (0 : Int)) = (bAt mo mv x).ca ∧ True) ∧ True) ∧ ∀ (x : Nat), (x ≤ mv.length ∧ x ≤ (100 : Nat)) ∧ newE mo = (0 : Int) → (decide ((↑x : Int) < (↑mv.length : Int)) = true → (decide ((↑x : Int) < (100 : Int)) = true → (0 : Int) ≤ (↑x : Int) ∧ (↑x : Int) < (↑mv.length : Int) ∧ BkS (Bk.mk (bAt mo mv x).mo (bAt mo mv x).wa (bAt mo mv x).no (bAt mo mv x).he (bAt mo mv x).ca (bAt mo mv x).bg) ∧ (BkS (Bk.mk (doF (Bk.mk (bAt mo mv x).mo (bAt mo mv x).wa (bAt mo mv x).no (bAt mo mv x).he (bAt mo mv x).ca (bAt mo mv x).bg) (mv.getD (↑x : Int).toNat ((0 : Int), (0 : Int), (0 : Int), (0 : Int), ())).fst (mv.getD (↑x : Int).toNat ((0 : Int), (0 : Int), (0 : Int), (0 : Int), ())).snd.fst (mv.getD (↑x : Int).toNat ((0 : Int), (0 : Int), (0 : Int), (0 : Int), ())).snd.snd.fst (mv.getD (↑x : Int).toNat ((0 : Int), (0 : Int), (0 : Int), (0 : Int), ())).snd.snd.snd.fst).snd.mo (doF (Bk.mk (bAt mo mv x).mo (bAt mo mv x).wa (bAt mo mv x).no (bAt mo mv x).he (bAt mo mv x).ca (bAt mo mv x).bg) (mv.getD (↑x : Int).toNat ((0 : Int), (0 : Int), (0 : Int), (0 : Int), ())).fst (mv.getD (↑x : Int).toNat ((0 : Int), (0 : Int), (0 : Int), (0 : Int), ())).snd.fst (mv.getD (↑x : Int).toNat ((0 : Int), (0 : Int), (0 : Int), (0 : Int), ())).snd.snd.fst (mv.getD (↑x : Int).toNat ((0 : Int), (0 : Int), (0 : Int), (0 : Int), ())).snd.snd.snd.fst).snd.wa (doF (Bk.mk (bAt mo mv x).mo (bAt mo mv x).wa (bAt mo mv x).no (bAt mo mv x).he (bAt mo mv x).ca (bAt mo mv x).bg) (mv.getD (↑x : Int).toNat ((0 : Int), (0 : Int), (0 : Int), (0 : Int), ())).fst (mv.getD (↑x : Int).toNat ((0 : Int), (0 : Int), (0 : Int), (0 : Int), ())).snd.fst (mv.getD (↑x : Int).toNat ((0 : Int), (0 : Int), (0 : Int), (0 : Int), ())).snd.snd.fst (mv.getD (↑x : Int).toNat ((0 : Int), (0 : Int), (0 : Int), (0 : Int), ())).snd.snd.snd.fst).snd.no (doF (Bk.mk (bAt mo mv x).mo (bAt mo mv x).wa (bAt mo mv x).no (bAt mo mv x).he (bAt mo mv x).ca (bAt mo mv x).bg) (mv.getD (↑x : Int).toNat ((0 : Int), (0 : Int), (0 : Int), (0 : Int), ())).fst (mv.getD (↑x : Int).toNat ((0 : Int), (0 : Int), (0 : Int), (0 : Int), ())).snd.fst (mv.getD (↑x : Int).toNat ((0 : Int), (0 : Int), (0 : Int), (0 : Int), ())).snd.snd.fst (mv.getD (↑x : Int).toNat ((0 : Int), (0 : Int), (0 : Int), (0 : Int), ())).snd.snd.snd.fst).snd.he (doF (Bk.mk (bAt mo mv x).mo (bAt mo mv x).wa (bAt mo mv x).no (bAt mo mv x).he (bAt mo mv x).ca (bAt mo mv x).bg) (mv.getD (↑x : Int).toNat ((0 : Int), (0 : Int), (0 : Int), (0 : Int), ())).fst (mv.getD (↑x : Int).toNat ((0 : Int), (0 : Int), (0 : Int), (0 : Int), ())).snd.fst (mv.getD (↑x : Int).toNat ((0 : Int), (0 : Int), (0 : Int), (0 : Int), ())).snd.snd.fst (mv.getD (↑x : Int).toNat ((0 : Int), (0 : Int), (0 : Int), (0 : Int), ())).snd.snd.snd.fst).snd.ca (doF (Bk.mk (bAt mo mv x).mo (bAt mo mv x).wa (bAt mo mv x).no (bAt mo mv x).he (bAt mo mv x).ca (bAt mo mv x).bg) (mv.getD (↑x : Int).toNat ((0 : Int), (0 : Int), (0 : Int), (0 : Int), ())).fst (mv.getD (↑x : Int).toNat ((0 : Int), (0 : Int), (0 : Int), (0 : Int), ())).snd.fst (mv.getD (↑x : Int).toNat ((0 : Int), (0 : Int), (0 : Int), (0 : Int), ())).snd.snd.fst (mv.getD (↑x : Int).toNat ((0 : Int), (0 : Int), (0 : Int), (0 : Int), ())).snd.snd.snd.fst).snd.bg) ∧ (↑mo.length : Int) = (↑(doF (Bk.mk (bAt mo mv x).mo (bAt mo mv x).wa (bAt mo mv x).no (bAt mo mv x).he (bAt mo mv x).ca (bAt mo mv x).bg) (mv.getD (↑x : Int).toNat ((0 : Int), (0 : Int), (0 : Int), (0 : Int), ())).fst (mv.getD (↑x : Int).toNat ((0 : Int), (0 : Int), (0 : Int), (0 : Int), ())).snd.fst (mv.getD (↑x : Int).toNat ((0 : Int), (0 : Int), (0 : Int), (0 : Int), ())).snd.snd.fst (mv.getD (↑x : Int).toNat ((0 : Int), (0 : Int), (0 : Int), (0 : Int), ())).snd.snd.snd.fst).snd.mo.length : Int)) ∧ ((!decide (wholeF (Bk.mk (doF (Bk.mk (bAt mo mv x).mo (bAt mo mv x).wa (bAt mo mv x).no (bAt mo mv x).he (bAt mo mv x).ca (bAt mo mv x).bg) (mv.getD (↑x : Int).toNat ((0 : Int), (0 : Int), (0 : Int), (0 : Int), ())).fst (mv.getD (↑x : Int).toNat ((0 : Int), (0 : Int), (0 : Int), (0 : Int), ())).snd.fst (mv.getD (↑x : Int).toNat ((0 : Int), (0 : Int), (0 : Int), (0 : Int), ())).snd.snd.fst (mv.getD (↑x : Int).toNat ((0 : Int), (0 : Int), (0 : Int), (0 : Int), ())).snd.snd.snd.fst).snd.mo (doF (Bk.mk (bAt mo mv x).mo (bAt mo mv x).wa (bAt mo mv x).no (bAt mo mv x).he (bAt mo mv x).ca (bAt mo mv x).bg) (mv.getD (↑x : Int).toNat ((0 : Int), (0 : Int), (0 : Int), (0 : Int), ())).fst (mv.getD (↑x : Int).toNat ((0 : Int), (0 : Int), (0 : Int), (0 : Int), ())).snd.fst (mv.getD (↑x : Int).toNat ((0 : Int), (0 : Int), (0 : Int), (0 : Int), ())).snd.snd.fst (mv.getD (↑x : Int).toNat ((0 : Int), (0 : Int), (0 : Int), (0 : Int), ())).snd.snd.snd.fst).snd.wa (doF (Bk.mk (bAt mo mv x).mo (bAt mo mv x).wa (bAt mo mv x).no (bAt mo mv x).he (bAt mo mv x).ca (bAt mo mv x).bg) (mv.getD (↑x : Int).toNat ((0 : Int), (0 : Int), (0 : Int), (0 : Int), ())).fst (mv.getD (↑x : Int).toNat ((0 : Int), (0 : Int), (0 : Int), (0 : Int), ())).snd.fst (mv.getD (↑x : Int).toNat ((0 : Int), (0 : Int), (0 : Int), (0 : Int), ())).snd.snd.fst (mv.getD (↑x : Int).toNat ((0 : Int), (0 : Int), (0 : Int), (0 : Int), ())).snd.snd.snd.fst).snd.no (doF (Bk.mk (bAt mo mv x).mo (bAt mo mv x).wa (bAt mo mv x).no (bAt mo mv x).he (bAt mo mv x).ca (bAt mo mv x).bg) (mv.getD (↑x : Int).toNat ((0 : Int), (0 : Int), (0 : Int), (0 : Int), ())).fst (mv.getD (↑x : Int).toNat ((0 : Int), (0 : Int), (0 : Int), (0 : Int), ())).snd.fst (mv.getD (↑x : Int).toNat ((0 : Int), (0 : Int), (0 : Int), (0 : Int), ())).snd.snd.fst (mv.getD (↑x : Int).toNat ((0 : Int), (0 : Int), (0 : Int), (0 : Int), ())).snd.snd.snd.fst).snd.he (doF (Bk.mk (bAt mo mv x).mo (bAt mo mv x).wa (bAt mo mv x).no (bAt mo mv x).he (bAt mo mv x).ca (bAt mo mv x).bg) (mv.getD (↑x : Int).toNat ((0 : Int), (0 : Int), (0 : Int), (0 : Int), ())).fst (mv.getD (↑x : Int).toNat ((0 : Int), (0 : Int), (0 : Int), (0 : Int), ())).snd.fst (mv.getD (↑x : Int).toNat ((0 : Int), (0 : Int), (0 : Int), (0 : Int), ())).snd.snd.fst (mv.getD (↑x : Int).toNat ((0 : Int), (0 : Int), (0 : Int), (0 : Int), ())).snd.snd.snd.fst).snd.ca (doF (Bk.mk (bAt mo mv x).mo (bAt mo mv x).wa (bAt mo mv x).no (bAt mo mv x).he (bAt mo mv x).ca (bAt mo mv x).bg) (mv.getD (↑x : Int).toNat ((0 : Int), (0 : Int), (0 : Int), (0 : Int), ())).fst (mv.getD (↑x : Int).toNat ((0 : Int), (0 : Int), (0 : Int), (0 : Int), ())).snd.fst (mv.getD (↑x : Int).toNat ((0 : Int), (0 : Int), (0 : Int), (0 : Int), ())).snd.snd.fst (mv.getD (↑x : Int).toNat ((0 : Int), (0 : Int), (0 : Int), (0 : Int), ())).snd.snd.snd.fst).snd.bg) = sumL mo)) = true → k [Dat.mk Ty.bool false]) ∧ ((!decide (wholeF (Bk.mk (doF (Bk.mk (bAt mo mv x).mo (bAt mo mv x).wa (bAt mo mv x).no (bAt mo mv x).he (bAt mo mv x).ca (bAt mo mv x).bg) (mv.getD (↑x : Int).toNat ((0 : Int), (0 : Int), (0 : Int), (0 : Int), ())).fst (mv.getD (↑x : Int).toNat ((0 : Int), (0 : Int), (0 : Int), (0 : Int), ())).snd.fst (mv.getD (↑x : Int).toNat ((0 : Int), (0 : Int), (0 : Int), (0 : Int), ())).snd.snd.fst (mv.getD (↑x : Int).toNat ((0 : Int), (0 : Int), (0 : Int), (0 : Int), ())).snd.snd.snd.fst).snd.mo (doF (Bk.mk (bAt mo mv x).mo (bAt mo mv x).wa (bAt mo mv x).no (bAt mo mv x).he (bAt mo mv x).ca (bAt mo mv x).bg) (mv.getD (↑x : Int).toNat ((0 : Int), (0 : Int), (0 : Int), (0 : Int), ())).fst (mv.getD (↑x : Int).toNat ((0 : Int), (0 : Int), (0 : Int), (0 : Int), ())).snd.fst (mv.getD (↑x : Int).toNat ((0 : Int), (0 : Int), (0 : Int), (0 : Int), ())).snd.snd.fst (mv.getD (↑x : Int).toNat ((0 : Int), (0 : Int), (0 : Int), (0 : Int), ())).snd.snd.snd.fst).snd.wa (doF (Bk.mk (bAt mo mv x).mo (bAt mo mv x).wa (bAt mo mv x).no (bAt mo mv x).he (bAt mo mv x).ca (bAt mo mv x).bg) (mv.getD (↑x : Int).toNat ((0 : Int), (0 : Int), (0 : Int), (0 : Int), ())).fst (mv.getD (↑x : Int).toNat ((0 : Int), (0 : Int), (0 : Int), (0 : Int), ())).snd.fst (mv.getD (↑x : Int).toNat ((0 : Int), (0 : Int), (0 : Int), (0 : Int), ())).snd.snd.fst (mv.getD (↑x : Int).toNat ((0 : Int), (0 : Int), (0 : Int), (0 : Int), ())).snd.snd.snd.fst).snd.no (doF (Bk.mk (bAt mo mv x).mo (bAt mo mv x).wa (bAt mo mv x).no (bAt mo mv x).he (bAt mo mv x).ca (bAt mo mv x).bg) (mv.getD (↑x : Int).toNat ((0 : Int), (0 : Int), (0 : Int), (0 : Int), ())).fst (mv.getD (↑x : Int).toNat ((0 : Int), (0 : Int), (0 : Int), (0 : Int), ())).snd.fst (mv.getD (↑x : Int).toNat ((0 : Int), (0 : Int), (0 : Int), (0 : Int), ())).snd.snd.fst (mv.getD (↑x : Int).toNat ((0 : Int), (0 : Int), (0 : Int), (0 : Int), ())).snd.snd.snd.fst).snd.he (doF (Bk.mk (bAt mo mv x).mo (bAt mo mv x).wa (bAt mo mv x).no (bAt mo mv x).he (bAt mo mv x).ca (bAt mo mv x).bg) (mv.getD (↑x : Int).toNat ((0 : Int), (0 : Int), (0 : Int), (0 : Int), ())).fst (mv.getD (↑x : Int).toNat ((0 : Int), (0 : Int), (0 : Int), (0 : Int), ())).snd.fst (mv.getD (↑x : Int).toNat ((0 : Int), (0 : Int), (0 : Int), (0 : Int), ())).snd.snd.fst (mv.getD (↑x : Int).toNat ((0 : Int), (0 : Int), (0 : Int), (0 : Int), ())).snd.snd.snd.fst).snd.ca (doF (Bk.mk (bAt mo mv x).mo (bAt mo mv x).wa (bAt mo mv x).no (bAt mo mv x).he (bAt mo mv x).ca (bAt mo mv x).bg) (mv.getD (↑x : Int).toNat ((0 : Int), (0 : Int), (0 : Int), (0 : Int), ())).fst (mv.getD (↑x : Int).toNat ((0 : Int), (0 : Int), (0 : Int), (0 : Int), ())).snd.fst (mv.getD (↑x : Int).toNat ((0 : Int), (0 : Int), (0 : Int), (0 : Int), ())).snd.snd.fst (mv.getD (↑x : Int).toNat ((0 : Int), (0 : Int), (0 : Int), (0 : Int), ())).snd.snd.snd.fst).snd.bg) = sumL mo)) = false → inK IntKind.i64 ((↑x : Int) + (1 : Int)) ∧ ∃ (x_1 : Nat), ((x_1 ≤ mv.length ∧ x_1 ≤ (100 : Nat)) ∧ newE mo = (0 : Int)) ∧ (100 : Nat) - x_1 < (100 : Nat) - x ∧ (mo = mo ∧ mv = mv ∧ True ∧ sumL mo = sumL mo ∧ (↑x : Int) + (1 : Int) = (↑x_1 : Int) ∧ True) ∧ ((True ∧ True ∧ True ∧ True ∧ True ∧ (doF (Bk.mk (bAt mo mv x).mo (bAt mo mv x).wa (bAt mo mv x).no (bAt mo mv x).he (bAt mo mv x).ca (bAt mo mv x).bg) (mv.getD (↑x : Int).toNat ((0 : Int), (0 : Int), (0 : Int), (0 : Int), ())).fst (mv.getD (↑x : Int).toNat ((0 : Int), (0 : Int), (0 : Int), (0 : Int), ())).snd.fst (mv.getD (↑x : Int).toNat ((0 : Int), (0 : Int), (0 : Int), (0 : Int), ())).snd.snd.fst (mv.getD (↑x : Int).toNat ((0 : Int), (0 : Int), (0 : Int), (0 : Int), ())).snd.snd.snd.fst).snd.bg = (bAt mo mv x_1).bg ∧ True) ∧ ((3 : Nat) = (3 : Nat) ∧ (doF (Bk.mk (bAt mo mv x).mo (bAt mo mv x).wa (bAt mo mv x).no (bAt mo mv x).he (bAt mo mv x).ca (bAt mo mv x).bg) (mv.getD (↑x : Int).toNat ((0 : Int), (0 : Int), (0 : Int), (0 : Int), ())).fst (mv.getD (↑x : Int).toNat ((0 : Int), (0 : Int), (0 : Int), (0 : Int), ())).snd.fst (mv.getD (↑x : Int).toNat ((0 : Int), (0 : Int), (0 : Int), (0 : Int), ())).snd.snd.fst (mv.getD (↑x : Int).toNat ((0 : Int), (0 : Int), (0 : Int), (0 : Int), ())).snd.snd.snd.fst).snd.mo = (bAt mo mv x_1).mo) ∧ (doF (Bk.mk (bAt mo mv x).mo (bAt mo mv x).wa (bAt mo mv x).no (bAt mo mv x).he (bAt mo mv x).ca (bAt mo mv x).bg) (mv.getD (↑x : Int).toNat ((0 : Int), (0 : Int), (0 : Int), (0 : Int), ())).fst (mv.getD (↑x : Int).toNat ((0 : Int), (0 : Int), (0 : Int), (0 : Int), ())).snd.fst (mv.getD (↑x : Int).toNat ((0 : Int), (0 : Int), (0 : Int), (0 : Int), ())).snd.snd.fst (mv.getD (↑x : Int).toNat ((0 : Int), (0 : Int), (0 : Int), (0 : Int), ())).snd.snd.snd.fst).snd.wa = (bAt mo mv x_1).wa ∧ ((3 : Nat) = (3 : Nat) ∧ (doF (Bk.mk (bAt mo mv x).mo (bAt mo mv x).wa (bAt mo mv x).no (bAt mo mv x).he (bAt mo mv x).ca (bAt mo mv x).bg) (mv.getD (↑x : Int).toNat ((0 : Int), (0 : Int), (0 : Int), (0 : Int), ())).fst (mv.getD (↑x : Int).toNat ((0 : Int), (0 : Int), (0 : Int), (0 : Int), ())).snd.fst (mv.getD (↑x : Int).toNat ((0 : Int), (0 : Int), (0 : Int), (0 : Int), ())).snd.snd.fst (mv.getD (↑x : Int).toNat ((0 : Int), (0 : Int), (0 : Int), (0 : Int), ())).snd.snd.snd.fst).snd.no = (bAt mo mv x_1).no) ∧ (doF (Bk.mk (bAt mo mv x).mo (bAt mo mv x).wa (bAt mo mv x).no (bAt mo mv x).he (bAt mo mv x).ca (bAt mo mv x).bg) (mv.getD (↑x : Int).toNat ((0 : Int), (0 : Int), (0 : Int), (0 : Int), ())).fst (mv.getD (↑x : Int).toNat ((0 : Int), (0 : Int), (0 : Int), (0 : Int), ())).snd.fst (mv.getD (↑x : Int).toNat ((0 : Int), (0 : Int), (0 : Int), (0 : Int), ())).snd.snd.fst (mv.getD (↑x : Int).toNat ((0 : Int), (0 : Int), (0 : Int), (0 : Int), ())).snd.snd.snd.fst).snd.he = (bAt mo mv x_1).he ∧ (doF (Bk.mk (bAt mo mv x).mo (bAt mo mv x).wa (bAt mo mv x).no (bAt mo mv x).he (bAt mo mv x).ca (bAt mo mv x).bg) (mv.getD (↑x : Int).toNat ((0 : Int), (0 : Int), (0 : Int), (0 : Int), ())).fst (mv.getD (↑x : Int).toNat ((0 : Int), (0 : Int), (0 : Int), (0 : Int), ())).snd.fst (mv.getD (↑x : Int).toNat ((0 : Int), (0 : Int), (0 : Int), (0 : Int), ())).snd.snd.fst (mv.getD (↑x : Int).toNat ((0 : Int), (0 : Int), (0 : Int), (0 : Int), ())).snd.snd.snd.fst).snd.ca = (bAt mo mv x_1).ca ∧ True) ∧ True)) ∧ (decide ((↑x : Int) < (100 : Int)) = false → k [Dat.mk Ty.bool true])) ∧ (decide ((↑x : Int) < (↑mv.length : Int)) = false → k [Dat.mk Ty.bool true]))) ∧ (newE mo ≠ (0 : Int) → ((!decide (newE mo = (0 : Int))) = true → k [Dat.mk Ty.bool true]) ∧ ((!decide (newE mo = (0 : Int))) = false → (mo.length ≤ (100 : Nat) ∧ ∀ (v : Int), v ∈ mo → (-1000000000 : Int) ≤ v ∧ v ≤ (1000000000 : Int)) ∧ (∃ (x : Nat), ((x ≤ mv.length ∧ x ≤ (100 : Nat)) ∧ newE mo = (0 : Int)) ∧ (mo = mo ∧ mv = mv ∧ False ∧ sumL mo = sumL mo ∧ (0 : Int) = (↑x : Int) ∧ True) ∧ (False ∧ False ∧ False ∧ False ∧ False ∧ False ∧ True) ∧ True) ∧ ∀ (x : Nat), (x ≤ mv.length ∧ x ≤ (100 : Nat)) ∧ newE mo = (0 : Int) → (decide ((↑x : Int) < (↑mv.length : Int)) = true → (decide ((↑x : Int) < (100 : Int)) = true → (0 : Int) ≤ (↑x : Int) ∧ (↑x : Int) < (↑mv.length : Int) ∧ BkS (Bk.mk (bAt mo mv x).mo (bAt mo mv x).wa (bAt mo mv x).no (bAt mo mv x).he (bAt mo mv x).ca (bAt mo mv x).bg) ∧ (BkS (Bk.mk (doF (Bk.mk (bAt mo mv x).mo (bAt mo mv x).wa (bAt mo mv x).no (bAt mo mv x).he (bAt mo mv x).ca (bAt mo mv x).bg) (mv.getD (↑x : Int).toNat ((0 : Int), (0 : Int), (0 : Int), (0 : Int), ())).fst (mv.getD (↑x : Int).toNat ((0 : Int), (0 : Int), (0 : Int), (0 : Int), ())).snd.fst (mv.getD (↑x : Int).toNat ((0 : Int), (0 : Int), (0 : Int), (0 : Int), ())).snd.snd.fst (mv.getD (↑x : Int).toNat ((0 : Int), (0 : Int), (0 : Int), (0 : Int), ())).snd.snd.snd.fst).snd.mo (doF (Bk.mk (bAt mo mv x).mo (bAt mo mv x).wa (bAt mo mv x).no (bAt mo mv x).he (bAt mo mv x).ca (bAt mo mv x).bg) (mv.getD (↑x : Int).toNat ((0 : Int), (0 : Int), (0 : Int), (0 : Int), ())).fst (mv.getD (↑x : Int).toNat ((0 : Int), (0 : Int), (0 : Int), (0 : Int), ())).snd.fst (mv.getD (↑x : Int).toNat ((0 : Int), (0 : Int), (0 : Int), (0 : Int), ())).snd.snd.fst (mv.getD (↑x : Int).toNat ((0 : Int), (0 : Int), (0 : Int), (0 : Int), ())).snd.snd.snd.fst).snd.wa (doF (Bk.mk (bAt mo mv x).mo (bAt mo mv x).wa (bAt mo mv x).no (bAt mo mv x).he (bAt mo mv x).ca (bAt mo mv x).bg) (mv.getD (↑x : Int).toNat ((0 : Int), (0 : Int), (0 : Int), (0 : Int), ())).fst (mv.getD (↑x : Int).toNat ((0 : Int), (0 : Int), (0 : Int), (0 : Int), ())).snd.fst (mv.getD (↑x : Int).toNat ((0 : Int), (0 : Int), (0 : Int), (0 : Int), ())).snd.snd.fst (mv.getD (↑x : Int).toNat ((0 : Int), (0 : Int), (0 : Int), (0 : Int), ())).snd.snd.snd.fst).snd.no (doF (Bk.mk (bAt mo mv x).mo (bAt mo mv x).wa (bAt mo mv x).no (bAt mo mv x).he (bAt mo mv x).ca (bAt mo mv x).bg) (mv.getD (↑x : Int).toNat ((0 : Int), (0 : Int), (0 : Int), (0 : Int), ())).fst (mv.getD (↑x : Int).toNat ((0 : Int), (0 : Int), (0 : Int), (0 : Int), ())).snd.fst (mv.getD (↑x : Int).toNat ((0 : Int), (0 : Int), (0 : Int), (0 : Int), ())).snd.snd.fst (mv.getD (↑x : Int).toNat ((0 : Int), (0 : Int), (0 : Int), (0 : Int), ())).snd.snd.snd.fst).snd.he (doF (Bk.mk (bAt mo mv x).mo (bAt mo mv x).wa (bAt mo mv x).no (bAt mo mv x).he (bAt mo mv x).ca (bAt mo mv x).bg) (mv.getD (↑x : Int).toNat ((0 : Int), (0 : Int), (0 : Int), (0 : Int), ())).fst (mv.getD (↑x : Int).toNat ((0 : Int), (0 : Int), (0 : Int), (0 : Int), ())).snd.fst (mv.getD (↑x : Int).toNat ((0 : Int), (0 : Int), (0 : Int), (0 : Int), ())).snd.snd.fst (mv.getD (↑x : Int).toNat ((0 : Int), (0 : Int), (0 : Int), (0 : Int), ())).snd.snd.snd.fst).snd.ca (doF (Bk.mk (bAt mo mv x).mo (bAt mo mv x).wa (bAt mo mv x).no (bAt mo mv x).he (bAt mo mv x).ca (bAt mo mv x).bg) (mv.getD (↑x : Int).toNat ((0 : Int), (0 : Int), (0 : Int), (0 : Int), ())).fst (mv.getD (↑x : Int).toNat ((0 : Int), (0 : Int), (0 : Int), (0 : Int), ())).snd.fst (mv.getD (↑x : Int).toNat ((0 : Int), (0 : Int), (0 : Int), (0 : Int), ())).snd.snd.fst (mv.getD (↑x : Int).toNat ((0 : Int), (0 : Int), (0 : Int), (0 : Int), ())).snd.snd.snd.fst).snd.bg) ∧ (↑mo.length : Int) = (↑(doF (Bk.mk (bAt mo mv x).mo (bAt mo mv x).wa (bAt mo mv x).no (bAt mo mv x).he (bAt mo mv x).ca (bAt mo mv x).bg) (mv.getD (↑x : Int).toNat ((0 : Int), (0 : Int), (0 : Int), (0 : Int), ())).fst (mv.getD (↑x : Int).toNat ((0 : Int), (0 : Int), (0 : Int), (0 : Int), ())).snd.fst (mv.getD (↑x : Int).toNat ((0 : Int), (0 : Int), (0 : Int), (0 : Int), ())).snd.snd.fst (mv.getD (↑x : Int).toNat ((0 : Int), (0 : Int), (0 : Int), (0 : Int), ())).snd.snd.snd.fst).snd.mo.length : Int)) ∧ ((!decide (wholeF (Bk.mk (doF (Bk.mk (bAt mo mv x).mo (bAt mo mv x).wa (bAt mo mv x).no (bAt mo mv x).he (bAt mo mv x).ca (bAt mo mv x).bg) (mv.getD (↑x : Int).toNat ((0 : Int), (0 : Int), (0 : Int), (0 : Int), ())).fst (mv.getD (↑x : Int).toNat ((0 : Int), (0 : Int), (0 : Int), (0 : Int), ())).snd.fst (mv.getD (↑x : Int).toNat ((0 : Int), (0 : Int), (0 : Int), (0 : Int), ())).snd.snd.fst (mv.getD (↑x : Int).toNat ((0 : Int), (0 : Int), (0 : Int), (0 : Int), ())).snd.snd.snd.fst).snd.mo (doF (Bk.mk (bAt mo mv x).mo (bAt mo mv x).wa (bAt mo mv x).no (bAt mo mv x).he (bAt mo mv x).ca (bAt mo mv x).bg) (mv.getD (↑x : Int).toNat ((0 : Int), (0 : Int), (0 : Int), (0 : Int), ())).fst (mv.getD (↑x : Int).toNat ((0 : Int), (0 : Int), (0 : Int), (0 : Int), ())).snd.fst (mv.getD (↑x : Int).toNat ((0 : Int), (0 : Int), (0 : Int), (0 : Int), ())).snd.snd.fst (mv.getD (↑x : Int).toNat ((0 : Int), (0 : Int), (0 : Int), (0 : Int), ())).snd.snd.snd.fst).snd.wa (doF (Bk.mk (bAt mo mv x).mo (bAt mo mv x).wa (bAt mo mv x).no (bAt mo mv x).he (bAt mo mv x).ca (bAt mo mv x).bg) (mv.getD (↑x : Int).toNat ((0 : Int), (0 : Int), (0 : Int), (0 : Int), ())).fst (mv.getD (↑x : Int).toNat ((0 : Int), (0 : Int), (0 : Int), (0 : Int), ())).snd.fst (mv.getD (↑x : Int).toNat ((0 : Int), (0 : Int), (0 : Int), (0 : Int), ())).snd.snd.fst (mv.getD (↑x : Int).toNat ((0 : Int), (0 : Int), (0 : Int), (0 : Int), ())).snd.snd.snd.fst).snd.no (doF (Bk.mk (bAt mo mv x).mo (bAt mo mv x).wa (bAt mo mv x).no (bAt mo mv x).he (bAt mo mv x).ca (bAt mo mv x).bg) (mv.getD (↑x : Int).toNat ((0 : Int), (0 : Int), (0 : Int), (0 : Int), ())).fst (mv.getD (↑x : Int).toNat ((0 : Int), (0 : Int), (0 : Int), (0 : Int), ())).snd.fst (mv.getD (↑x : Int).toNat ((0 : Int), (0 : Int), (0 : Int), (0 : Int), ())).snd.snd.fst (mv.getD (↑x : Int).toNat ((0 : Int), (0 : Int), (0 : Int), (0 : Int), ())).snd.snd.snd.fst).snd.he (doF (Bk.mk (bAt mo mv x).mo (bAt mo mv x).wa (bAt mo mv x).no (bAt mo mv x).he (bAt mo mv x).ca (bAt mo mv x).bg) (mv.getD (↑x : Int).toNat ((0 : Int), (0 : Int), (0 : Int), (0 : Int), ())).fst (mv.getD (↑x : Int).toNat ((0 : Int), (0 : Int), (0 : Int), (0 : Int), ())).snd.fst (mv.getD (↑x : Int).toNat ((0 : Int), (0 : Int), (0 : Int), (0 : Int), ())).snd.snd.fst (mv.getD (↑x : Int).toNat ((0 : Int), (0 : Int), (0 : Int), (0 : Int), ())).snd.snd.snd.fst).snd.ca (doF (Bk.mk (bAt mo mv x).mo (bAt mo mv x).wa (bAt mo mv x).no (bAt mo mv x).he (bAt mo mv x).ca (bAt mo mv x).bg) (mv.getD (↑x : Int).toNat ((0 : Int), (0 : Int), (0 : Int), (0 : Int), ())).fst (mv.getD (↑x : Int).toNat ((0 : Int), (0 : Int), (0 : Int), (0 : Int), ())).snd.fst (mv.getD (↑x : Int).toNat ((0 : Int), (0 : Int), (0 : Int), (0 : Int), ())).snd.snd.fst (mv.getD (↑x : Int).toNat ((0 : Int), (0 : Int), (0 : Int), (0 : Int), ())).snd.snd.snd.fst).snd.bg) = sumL mo)) = true → k [Dat.mk Ty.bool false]) ∧ ((!decide (wholeF (Bk.mk (doF (Bk.mk (bAt mo mv x).mo (bAt mo mv x).wa (bAt mo mv x).no (bAt mo mv x).he (bAt mo mv x).ca (bAt mo mv x).bg) (mv.getD (↑x : Int).toNat ((0 : Int), (0 : Int), (0 : Int), (0 : Int), ())).fst (mv.getD (↑x : Int).toNat ((0 : Int), (0 : Int), (0 : Int), (0 : Int), ())).snd.fst (mv.getD (↑x : Int).toNat ((0 : Int), (0 : Int), (0 : Int), (0 : Int), ())).snd.snd.fst (mv.getD (↑x : Int).toNat ((0 : Int), (0 : Int), (0 : Int), (0 : Int), ())).snd.snd.snd.fst).snd.mo (doF (Bk.mk (bAt mo mv x).mo (bAt mo mv x).wa (bAt mo mv x).no (bAt mo mv x).he (bAt mo mv x).ca (bAt mo mv x).bg) (mv.getD (↑x : Int).toNat ((0 : Int), (0 : Int), (0 : Int), (0 : Int), ())).fst (mv.getD (↑x : Int).toNat ((0 : Int), (0 : Int), (0 : Int), (0 : Int), ())).snd.fst (mv.getD (↑x : Int).toNat ((0 : Int), (0 : Int), (0 : Int), (0 : Int), ())).snd.snd.fst (mv.getD (↑x : Int).toNat ((0 : Int), (0 : Int), (0 : Int), (0 : Int), ())).snd.snd.snd.fst).snd.wa (doF (Bk.mk (bAt mo mv x).mo (bAt mo mv x).wa (bAt mo mv x).no (bAt mo mv x).he (bAt mo mv x).ca (bAt mo mv x).bg) (mv.getD (↑x : Int).toNat ((0 : Int), (0 : Int), (0 : Int), (0 : Int), ())).fst (mv.getD (↑x : Int).toNat ((0 : Int), (0 : Int), (0 : Int), (0 : Int), ())).snd.fst (mv.getD (↑x : Int).toNat ((0 : Int), (0 : Int), (0 : Int), (0 : Int), ())).snd.snd.fst (mv.getD (↑x : Int).toNat ((0 : Int), (0 : Int), (0 : Int), (0 : Int), ())).snd.snd.snd.fst).snd.no (doF (Bk.mk (bAt mo mv x).mo (bAt mo mv x).wa (bAt mo mv x).no (bAt mo mv x).he (bAt mo mv x).ca (bAt mo mv x).bg) (mv.getD (↑x : Int).toNat ((0 : Int), (0 : Int), (0 : Int), (0 : Int), ())).fst (mv.getD (↑x : Int).toNat ((0 : Int), (0 : Int), (0 : Int), (0 : Int), ())).snd.fst (mv.getD (↑x : Int).toNat ((0 : Int), (0 : Int), (0 : Int), (0 : Int), ())).snd.snd.fst (mv.getD (↑x : Int).toNat ((0 : Int), (0 : Int), (0 : Int), (0 : Int), ())).snd.snd.snd.fst).snd.he (doF (Bk.mk (bAt mo mv x).mo (bAt mo mv x).wa (bAt mo mv x).no (bAt mo mv x).he (bAt mo mv x).ca (bAt mo mv x).bg) (mv.getD (↑x : Int).toNat ((0 : Int), (0 : Int), (0 : Int), (0 : Int), ())).fst (mv.getD (↑x : Int).toNat ((0 : Int), (0 : Int), (0 : Int), (0 : Int), ())).snd.fst (mv.getD (↑x : Int).toNat ((0 : Int), (0 : Int), (0 : Int), (0 : Int), ())).snd.snd.fst (mv.getD (↑x : Int).toNat ((0 : Int), (0 : Int), (0 : Int), (0 : Int), ())).snd.snd.snd.fst).snd.ca (doF (Bk.mk (bAt mo mv x).mo (bAt mo mv x).wa (bAt mo mv x).no (bAt mo mv x).he (bAt mo mv x).ca (bAt mo mv x).bg) (mv.getD (↑x : Int).toNat ((0 : Int), (0 : Int), (0 : Int), (0 : Int), ())).fst (mv.getD (↑x : Int).toNat ((0 : Int), (0 : Int), (0 : Int), (0 : Int), ())).snd.fst (mv.getD (↑x : Int).toNat ((0 : Int), (0 : Int), (0 : Int), (0 : Int), ())).snd.snd.fst (mv.getD (↑x : Int).toNat ((0 : Int), (0 : Int), (0 : Int), (0 : Int), ())).snd.snd.snd.fst).snd.bg) = sumL mo)) = false → inK IntKind.i64 ((↑x : Int) + (1 : Int)) ∧ ∃ (x_1 : Nat), ((x_1 ≤ mv.length ∧ x_1 ≤ (100 : Nat)) ∧ newE mo = (0 : Int)) ∧ (100 : Nat) - x_1 < (100 : Nat) - x ∧ (mo = mo ∧ mv = mv ∧ True ∧ sumL mo = sumL mo ∧ (↑x : Int) + (1 : Int) = (↑x_1 : Int) ∧ True) ∧ ((True ∧ True ∧ True ∧ True ∧ True ∧ (doF (Bk.mk (bAt mo mv x).mo (bAt mo mv x).wa (bAt mo mv x).no (bAt mo mv x).he (bAt mo mv x).ca (bAt mo mv x).bg) (mv.getD (↑x : Int).toNat ((0 : Int), (0 : Int), (0 : Int), (0 : Int), ())).fst (mv.getD (↑x : Int).toNat ((0 : Int), (0 : Int), (0 : Int), (0 : Int), ())).snd.fst (mv.getD (↑x : Int).toNat ((0 : Int), (0 : Int), (0 : Int), (0 : Int), ())).snd.snd.fst (mv.getD (↑x : Int).toNat ((0 : Int), (0 : Int), (0 : Int), (0 : Int), ())).snd.snd.snd.fst).snd.bg = (bAt mo mv x_1).bg ∧ True) ∧ ((3 : Nat) = (3 : Nat) ∧ (doF (Bk.mk (bAt mo mv x).mo (bAt mo mv x).wa (bAt mo mv x).no (bAt mo mv x).he (bAt mo mv x).ca (bAt mo mv x).bg) (mv.getD (↑x : Int).toNat ((0 : Int), (0 : Int), (0 : Int), (0 : Int), ())).fst (mv.getD (↑x : Int).toNat ((0 : Int), (0 : Int), (0 : Int), (0 : Int), ())).snd.fst (mv.getD (↑x : Int).toNat ((0 : Int), (0 : Int), (0 : Int), (0 : Int), ())).snd.snd.fst (mv.getD (↑x : Int).toNat ((0 : Int), (0 : Int), (0 : Int), (0 : Int), ())).snd.snd.snd.fst).snd.mo = (bAt mo mv x_1).mo) ∧ (doF (Bk.mk (bAt mo mv x).mo (bAt mo mv x).wa (bAt mo mv x).no (bAt mo mv x).he (bAt mo mv x).ca (bAt mo mv x).bg) (mv.getD (↑x : Int).toNat ((0 : Int), (0 : Int), (0 : Int), (0 : Int), ())).fst (mv.getD (↑x : Int).toNat ((0 : Int), (0 : Int), (0 : Int), (0 : Int), ())).snd.fst (mv.getD (↑x : Int).toNat ((0 : Int), (0 : Int), (0 : Int), (0 : Int), ())).snd.snd.fst (mv.getD (↑x : Int).toNat ((0 : Int), (0 : Int), (0 : Int), (0 : Int), ())).snd.snd.snd.fst).snd.wa = (bAt mo mv x_1).wa ∧ ((3 : Nat) = (3 : Nat) ∧ (doF (Bk.mk (bAt mo mv x).mo (bAt mo mv x).wa (bAt mo mv x).no (bAt mo mv x).he (bAt mo mv x).ca (bAt mo mv x).bg) (mv.getD (↑x : Int).toNat ((0 : Int), (0 : Int), (0 : Int), (0 : Int), ())).fst (mv.getD (↑x : Int).toNat ((0 : Int), (0 : Int), (0 : Int), (0 : Int), ())).snd.fst (mv.getD (↑x : Int).toNat ((0 : Int), (0 : Int), (0 : Int), (0 : Int), ())).snd.snd.fst (mv.getD (↑x : Int).toNat ((0 : Int), (0 : Int), (0 : Int), (0 : Int), ())).snd.snd.snd.fst).snd.no = (bAt mo mv x_1).no) ∧ (doF (Bk.mk (bAt mo mv x).mo (bAt mo mv x).wa (bAt mo mv x).no (bAt mo mv x).he (bAt mo mv x).ca (bAt mo mv x).bg) (mv.getD (↑x : Int).toNat ((0 : Int), (0 : Int), (0 : Int), (0 : Int), ())).fst (mv.getD (↑x : Int).toNat ((0 : Int), (0 : Int), (0 : Int), (0 : Int), ())).snd.fst (mv.getD (↑x : Int).toNat ((0 : Int), (0 : Int), (0 : Int), (0 : Int), ())).snd.snd.fst (mv.getD (↑x : Int).toNat ((0 : Int), (0 : Int), (0 : Int), (0 : Int), ())).snd.snd.snd.fst).snd.he = (bAt mo mv x_1).he ∧ (doF (Bk.mk (bAt mo mv x).mo (bAt mo mv x).wa (bAt mo mv x).no (bAt mo mv x).he (bAt mo mv x).ca (bAt mo mv x).bg) (mv.getD (↑x : Int).toNat ((0 : Int), (0 : Int), (0 : Int), (0 : Int), ())).fst (mv.getD (↑x : Int).toNat ((0 : Int), (0 : Int), (0 : Int), (0 : Int), ())).snd.fst (mv.getD (↑x : Int).toNat ((0 : Int), (0 : Int), (0 : Int), (0 : Int), ())).snd.snd.fst (mv.getD (↑x : Int).toNat ((0 : Int), (0 : Int), (0 : Int), (0 : Int), ())).snd.snd.snd.fst).snd.ca = (bAt mo mv x_1).ca ∧ True) ∧ True)) ∧ (decide ((↑x : Int) < (100 : Int)) = false → k [Dat.mk Ty.bool true])) ∧ (decide ((↑x : Int) < (↑mv.length : Int)) = false → k [Dat.mk Ty.bool true]))))) := by kernel_rfl
end Go.Proofs.Ytjgdpblaghhfhaa

/- Banks: what is noted, what there is in all: contracts kept. -/
namespace Go.Proofs.Ytjgdpblaghhfhaa.N
open Go.Vc
theorem sumL_app (a b : List Int) : sumL (a ++ b) = sumL a + sumL b := by
  induction a with
  | nil => simp [sumL]
  | cons x r ih => simp only [List.cons_append, sumL, ih]; omega
theorem sumP_app (a b : List Int) : sumP (a ++ b) = sumP a + sumP b := by
  induction a with
  | nil => simp [sumP]
  | cons x r ih => simp only [List.cons_append, sumP, ih]; omega
theorem take_snoc {l : List Int} {i : Nat} (h : i < l.length) : l.take (i + 1) = l.take i ++ [l.getD i 0] := by
  rw [List.take_succ_eq_append_getElem h, List.getD_eq_getElem?_getD, List.getElem?_eq_getElem h]; rfl
theorem sumL_snoc {l : List Int} {i : Nat} (h : i < l.length) : sumL (l.take i) + l.getD i 0 = sumL (l.take (i + 1)) := by
  rw [take_snoc h, sumL_app]; simp [sumL]
theorem sumL_le {l : List Int} (h : ∀ v ∈ l, -1000000000 ≤ v ∧ v ≤ 1000000000) : -1000000000 * (l.length : Int) ≤ sumL l ∧ sumL l ≤ 1000000000 * (l.length : Int) := by
  induction l with
  | nil => simp [sumL]
  | cons x r ih =>
    have h1 := ih (fun v hv => h v (List.mem_cons_of_mem _ hv))
    have h2 := h x (List.mem_cons_self ..)
    simp only [sumL, List.length_cons]; omega
theorem sumP_le {l : List Int} (h : ∀ v ∈ l, -1000000000 ≤ v ∧ v ≤ 1000000000) : 0 ≤ sumP l ∧ sumP l ≤ 1000000000 * (l.length : Int) := by
  induction l with
  | nil => simp [sumP]
  | cons x r ih =>
    have h1 := ih (fun v hv => h v (List.mem_cons_of_mem _ hv))
    have h2 := h x (List.mem_cons_self ..)
    simp only [sumP, List.length_cons]
    split <;> omega
theorem okSum : PlainOk Try.prog glK 22 cSum := by
  refine plain_of (CxOk.mk' Et_ok rfl mixed (gl := glK) GOk.nil GoOk.nil noIt) Try.func22 (c := Try.f22.body.getD .skip) (rvs := [(.tmp 2, I)]) (by kernel_rfl) (by kernel_rfl) (by kernel_rfl) ?_
  intro ds k ⟨hp, hk⟩ hwf
  obtain ⟨l, rfl, h1, h2⟩ := dest1 hp
  have hk : k [⟨I, sumL l⟩] := hk
  refine ⟨anSum l, ?_⟩
  rw [vcSum]
  simp only [Int.toNat_natCast, and_true, true_and, decide_eq_true_eq, decide_eq_false_iff_not]
  have hb : ∀ i, -1000000000 * (100 : Int) ≤ sumL (l.take i) ∧ sumL (l.take i) ≤ 1000000000 * (100 : Int) := fun i => by
    have := sumL_le (l := l.take i) (fun v hv => h2 v (List.mem_of_mem_take hv))
    have hl : (l.take i).length ≤ 100 := by rw [List.length_take]; omega
    omega
  refine ⟨⟨0, Nat.zero_le _, rfl, rfl⟩, fun x hx => ⟨fun h => ?_, fun h => ?_⟩⟩
  · have hv := h2 _ (getD_memL (by omega : x < l.length) 0)
    have := hb x
    exact ⟨by omega, h, inK_i64.2 (by omega), inK_i64.2 (by omega), x + 1, by omega, by omega, sumL_snoc (by omega), by omega⟩
  · have : x = l.length := by omega
    subst this
    rw [List.take_length]; exact hk
theorem okInts : PlainOk Try.prog glK 32 cInts := by
  refine plain_of (CxOk.mk' Et_ok rfl mixed (gl := glK) GOk.nil GoOk.nil noIt) Try.func32 (c := Try.f32.body.getD .skip) (rvs := [(.tmp 4, .bool)]) (by kernel_rfl) (by kernel_rfl) (by kernel_rfl) ?_
  intro ds k ⟨hp, hk⟩ hwf
  obtain ⟨a, b, rfl, h1, h2⟩ := dest2 hp
  have hk : k [⟨.bool, decide (a = b)⟩] := hk
  refine ⟨anInts a b, ?_⟩
  rw [vcInts]
  simp only [Int.toNat_natCast, and_true, true_and, decide_eq_true_eq, decide_eq_false_iff_not, Bool.not_eq_eq_eq_not, Bool.not_true, Bool.not_false]
  refine ⟨fun h => ?_, fun h => ⟨⟨0, ⟨Nat.zero_le _, by omega, rfl⟩, rfl⟩, fun x ⟨hx, hl, he⟩ => ⟨fun h3 => ⟨⟨by omega, h3, by omega, by omega⟩, fun h4 => ?_, fun h4 => ⟨inK_i64.2 (by omega), x + 1, ⟨by omega, hl, ?_⟩, by omega, by omega⟩⟩, fun h3 => ?_⟩⟩⟩
  · have e : decide (a = b) = false := decide_eq_false (fun e => h (by rw [e]))
    rw [e] at hk; exact hk
  · have e : decide (a = b) = false := decide_eq_false (fun e => h4 (by rw [e]))
    rw [e] at hk; exact hk
  · rw [take_snoc (by omega), take_snoc (by omega), he, h4]
  · have e : a = b := by
      have hxa : x = a.length := by omega
      have hxb : x = b.length := by omega
      rw [hxa, List.take_length] at he
      rw [he, ← hxa, hxb, List.take_length]
    rw [decide_eq_true e] at hk; exact hk
theorem doneR_iff {b : Bk} {t : Nat} : ∀ {n : Nat}, doneR b t n = true ↔ ∀ j, j < n → j = t ∨ at2b b.he t j = true
  | 0 => by simp [doneR]
  | n + 1 => by
    have ih := doneR_iff (b := b) (t := t) (n := n)
    unfold doneR
    rw [Bool.and_eq_true, ih, Bool.or_eq_true, beq_iff_eq]
    constructor
    · rintro ⟨h1, h2⟩ j hj
      rcases Nat.lt_or_eq_of_le (Nat.le_of_lt_succ hj) with h | h
      · exact h1 j h
      · subst h; exact h2
    · intro h
      exact ⟨fun j hj => h j (by omega), h n (by omega)⟩
theorem doneA_iff {b : Bk} : ∀ {n : Nat}, doneA b n = true ↔ ∀ t, t < n → doneR b t b.mo.length = true
  | 0 => by simp [doneA]
  | n + 1 => by
    have ih := doneA_iff (b := b) (n := n)
    unfold doneA
    rw [Bool.and_eq_true, ih]
    constructor
    · rintro ⟨h1, h2⟩ j hj
      rcases Nat.lt_or_eq_of_le (Nat.le_of_lt_succ hj) with h | h
      · exact h1 j h
      · subst h; exact h2
    · intro h
      exact ⟨fun j hj => h j (by omega), h n (by omega)⟩
theorem allF_no {b : Bk} {t j : Nat} (ht : t < b.mo.length) (hj : j < b.mo.length) (hn : j ≠ t) (h : at2b b.he t j = false) : allF b = false := by
  unfold allF
  cases hd : doneA b b.mo.length with
  | false => simp
  | true =>
    rcases doneR_iff.1 (doneA_iff.1 hd t ht) j hj with h1 | h1
    · exact absurd h1 hn
    · rw [h] at h1; cases h1
theorem noted_vc (mo : List Int) (wa : L3) (no : List Int) (he : B2) (ca : L2) (bg : Bool) (k : SV → List Ob → Prop) (S : BkS ⟨mo, wa, no, he, ca, bg⟩)
    (hk1 : allF ⟨mo, wa, no, he, ca, bg⟩ = false → k (.tp [.nils, .nils, .d .bool false]) (bob ⟨mo, wa, no, he, ca, bg⟩))
    (hk2 : allF ⟨mo, wa, no, he, ca, bg⟩ = true → k (.tp [.os 1, .os 2, .d .bool true]) [.st 72 [.os 3, .os 4, .os 5, .os 6, .os 7, .d .bool bg], .row 3 I no, .trow 35 oR ca, .row 3 I mo, .trow 36 oW wa, .row 3 I no, .trow 29 oH he, .trow 35 oR ca]) :
    vcO ⟨Et, [(31, cMin)], glK, [], [(33, oClone)]⟩ (anNoted ⟨mo, wa, no, he, ca, bg⟩) (Try.f25.body.getD .skip) Try.f25.ntmps [(.tmp 2, .un), (.tmp 3, .un), (.tmp 4, .bool)] [.ps 0] (bob ⟨mo, wa, no, he, ca, bg⟩) k := by
  rw [vcNoted]
  have hno : no.length = mo.length := S.no
  have n5 : mo.length ≤ 5 := S.n5
  have n1 : 1 ≤ mo.length := S.n1
  have c1 : ca.length = mo.length := S.ca
  have h1 : he.length = mo.length := S.he
  simp only [Int.toNat_natCast, and_true, true_and, decide_eq_true_eq, decide_eq_false_iff_not, Bool.not_eq_eq_eq_not, Bool.not_true, Bool.not_false]
  refine ⟨⟨by omega, by omega⟩, fun h => hk1 ?_, fun h => ⟨⟨0, ⟨Nat.zero_le _, rfl⟩, rfl, rfl⟩, fun x ⟨hx, hd⟩ => ⟨fun hlt => ?_, fun hge => ⟨by omega, ?_⟩⟩⟩⟩
  · unfold allF; rw [decide_eq_false (show ¬ 0 ≤ minL no by omega)]; rfl
  · have X : x < mo.length := by omega
    have c2 : (ca.getD x []).length = mo.length := S.ca2 _ X
    have h2 : (he.getD x []).length = mo.length := S.he2 _ X
    have e1 : List.set ca x (ca.getD x []) = ca := set_getD_self _ _ _
    have e2 : List.append (ca.take x) [ca.getD x []] = ca.take (x + 1) := by
      have hxl : x < ca.length := by omega
      rw [List.take_succ_eq_append_getElem hxl, List.getD_eq_getElem?_getD, List.getElem?_eq_getElem hxl]; rfl
    refine ⟨by omega, by omega, by omega, by omega, by rw [List.length_take, List.length_singleton]; omega, ⟨0, ⟨Nat.zero_le _, rfl⟩, rfl, e1, e2⟩, fun y ⟨hy, hr⟩ => ⟨fun hlt2 => ⟨fun hne => ?_, fun heq => ?_⟩, fun hge2 => ?_⟩⟩
    · refine ⟨by omega, by omega, by omega, by omega, by omega, by omega, by omega, by omega, fun hf => hk1 ?_, fun ht => ⟨inK_i64.2 (by omega), y + 1, ⟨by omega, ?_⟩, by omega, by omega⟩⟩
      · exact allF_no (b := ⟨mo, wa, no, he, ca, bg⟩) X (show y < mo.length by omega) (show y ≠ x by omega) hf
      · unfold doneR; rw [hr]
        have : at2b he x y = true := ht
        simp [this]
    · refine ⟨inK_i64.2 (by omega), y + 1, ⟨by omega, ?_⟩, by omega, by omega⟩
      unfold doneR; rw [hr]
      have : (y == x) = true := by rw [beq_iff_eq]; omega
      simp [this]
    · have hyn : y = mo.length := by omega
      subst hyn
      refine ⟨inK_i64.2 (by omega), x + 1, ⟨by omega, ?_⟩, by omega, by omega, rfl⟩
      unfold doneA; rw [hd]
      simp only [Bool.true_and]
      exact hr
  · have hxn : x = mo.length := by omega
    rw [hxn] at hd
    have ha : allF ⟨mo, wa, no, he, ca, bg⟩ = true := by
      unfold allF
      rw [decide_eq_true (show 0 ≤ minL no by omega)]
      exact hd
    have e : ca.take x = ca := by rw [hxn, ← c1, List.take_length]
    have h3 : ∀ l : L2, l = ca → k (.tp [.os 1, .os 2, .d .bool true]) [.st 72 [.os 3, .os 4, .os 5, .os 6, .os 7, .d .bool bg], .row 3 I no, .trow 35 oR l, .row 3 I mo, .trow 36 oW wa, .row 3 I no, .trow 29 oH he, .trow 35 oR ca] := fun l hl => by rw [hl]; exact hk2 ha
    exact h3 _ e
theorem okNoted : OwnOk Try.prog glK 25 oNoted := by
  refine own_of (CxOk.mk' Et_ok rfl mixed (gl := glK) (GOk.cons okMin Try.func31 rfl rfl GOk.nil) (GoOk.cons okClone Try.func33 rfl rfl GoOk.nil) noIt) Try.func25 (c := Try.f25.body.getD .skip) (rvs := [(.tmp 2, .un), (.tmp 3, .un), (.tmp 4, .bool)]) (by kernel_rfl) (by kernel_rfl) (by kernel_rfl) ?_
  intro args ob k h hw1 hw2
  clear hw1 hw2
  unfold oNoted at h
  split at h
  · obtain ⟨S, h1, h2⟩ := h
    exact ⟨anNoted ⟨_, _, _, _, _, _⟩, noted_vc _ _ _ _ _ _ k S h1 h2⟩
  · exact h.elim
theorem sumTo_le {f : Nat → Int} {c : Int} : ∀ {n : Nat}, (∀ i, i < n → 0 ≤ f i ∧ f i ≤ c) → 0 ≤ sumTo n f ∧ sumTo n f ≤ (n : Int) * c
  | 0, _ => by simp [sumTo]
  | n + 1, h => by
    have ih := sumTo_le (f := f) (c := c) (n := n) (fun i hi => h i (by omega))
    have h1 := h n (by omega)
    have e : ((n + 1 : Nat) : Int) * c = (n : Int) * c + c := by rw [Int.natCast_add, Int.add_mul]; simp
    simp only [sumTo]
    rw [e]; omega
theorem mem_getD {l : List Int} {v : Int} (h : v ∈ l) : ∃ i, i < l.length ∧ l.getD i 0 = v := by
  obtain ⟨i, hi, e⟩ := List.getElem_of_mem h
  exact ⟨i, hi, by rw [List.getD_eq_getElem?_getD, List.getElem?_eq_getElem hi]; exact e⟩
theorem BkS.mv {b : Bk} (S : BkS b) : ∀ v ∈ b.mo, -1000000000 ≤ v ∧ v ≤ 1000000000 := fun v hv => by
  obtain ⟨i, hi, rfl⟩ := mem_getD hv
  exact S.mb i hi
theorem waySum_le {b : Bk} (S : BkS b) {p q : Nat} (hp : p < b.mo.length) (hq : q < b.mo.length) : 0 ≤ waySum b p q ∧ waySum b p q ≤ 100000000000000 := by
  have h1 := sumP_le (l := at3 b.wa p q) (fun v hv => S.vb p q v hp hq hv)
  have h2 := S.wk p q hp hq
  unfold waySum; omega
theorem rowSum_le {b : Bk} (S : BkS b) {p n : Nat} (hp : p < b.mo.length) (hn : n ≤ b.mo.length) : 0 ≤ rowSum b p n ∧ rowSum b p n ≤ 500000000000000 := by
  have h1 := sumTo_le (n := n) (f := waySum b p) (c := 100000000000000) (fun q hq => waySum_le S hp (by omega))
  have n5 := S.n5
  unfold rowSum; omega
theorem whole_vc (mo : List Int) (wa : L3) (no : List Int) (he : B2) (ca : L2) (bg : Bool) (n : Int) (k : SV → List Ob → Prop) (S : BkS ⟨mo, wa, no, he, ca, bg⟩) (hn : n = (mo.length : Int))
    (hk : k (.d I (wholeF ⟨mo, wa, no, he, ca, bg⟩)) (bob ⟨mo, wa, no, he, ca, bg⟩)) :
    vcO ⟨Et, [(22, cSum)], glK, [], [(27, oMoney), (26, oWay)]⟩ (anWhole ⟨mo, wa, no, he, ca, bg⟩) (Try.f24.body.getD .skip) Try.f24.ntmps [(.tmp 4, I)] [.ps 0, .d I n] (bob ⟨mo, wa, no, he, ca, bg⟩) k := by
  rw [vcWhole]
  subst hn
  have n5 : mo.length ≤ 5 := S.n5
  have n1 : 1 ≤ mo.length := S.n1
  simp only [Int.toNat_natCast, and_true, true_and, decide_eq_true_eq, decide_eq_false_iff_not, Bool.not_eq_eq_eq_not, Bool.not_true, Bool.not_false]
  have hm := sumL_le S.mv
  have hm : -5000000000 ≤ sumL mo ∧ sumL mo ≤ 5000000000 := by
    have : ({ mo := mo, wa := wa, no := no, he := he, ca := ca, bg := bg } : Bk).mo = mo := rfl
    rw [this] at hm; omega
  have hr := fun p n (hp : p < mo.length) (hn : n ≤ mo.length) => rowSum_le S (p := p) (n := n) hp hn
  have hs := fun x (hx : x ≤ mo.length) => sumTo_le (n := x) (f := fun p => rowSum ⟨mo, wa, no, he, ca, bg⟩ p mo.length) (c := 500000000000000) (fun p hp => hr p mo.length (by omega) (by omega))
  refine ⟨n5, ⟨by omega, S.mv⟩, ⟨0, Nat.zero_le _, by simp [sumTo], rfl⟩, fun x hx => ⟨fun hlt => ⟨⟨0, Nat.zero_le _, by simp [sumTo, rowSum], rfl⟩, fun y hy => ⟨fun hlt2 => ⟨S, ⟨0, Nat.zero_le _, ⟨by simp [sumP], rfl⟩, ?_⟩, fun z hz => ⟨fun hlt3 => ?_, fun hge3 => ?_⟩⟩, fun hge2 => ?_⟩⟩, fun hge => ?_⟩⟩
  · unfold wayF
    rw [if_pos (by rw [Bool.and_eq_true]; exact ⟨inB_iff.2 ⟨by omega, by show (x : Int) ≤ (mo.length : Int) - 1; omega⟩, inB_iff.2 ⟨by omega, by show (y : Int) ≤ (mo.length : Int) - 1; omega⟩⟩)]
    rfl
  · have X : x < mo.length := by omega
    have Y : y < mo.length := by omega
    have hl : (at3 wa x y).length ≤ 100000 := S.wk x y X Y
    have hzl : z < (at3 wa x y).length := by omega
    have hv := S.vb x y _ X Y (getD_memL hzl 0)
    have hv : -1000000000 ≤ (at3 wa x y).getD z 0 ∧ (at3 wa x y).getD z 0 ≤ 1000000000 := hv
    have hp := sumP_le (l := (at3 wa x y).take z) (fun v hv => S.vb x y v X Y (List.mem_of_mem_take hv))
    have hpl : ((at3 wa x y).take z).length ≤ 100000 := by rw [List.length_take]; omega
    have h1 := hr x y X hy
    have h2 := hs x hx
    have es : sumP ((at3 wa x y).take (z + 1)) = sumP ((at3 wa x y).take z) + (if 0 < (at3 wa x y).getD z 0 then (at3 wa x y).getD z 0 else 0) := by
      rw [take_snoc hzl, sumP_app]; simp [sumP]
    refine ⟨by omega, hlt3, fun hpos => ⟨by omega, hlt3, inK_i64.2 (by omega), inK_i64.2 (by omega), z + 1, by omega, by omega, ?_, by omega⟩, fun hneg => ⟨inK_i64.2 (by omega), z + 1, by omega, by omega, ?_, by omega⟩⟩
    · rw [es, if_pos hpos]; omega
    · rw [es, if_neg hneg]; omega
  · have ez : z = (at3 wa x y).length := by omega
    subst ez
    refine ⟨inK_i64.2 (by omega), y + 1, by omega, by omega, ?_, by omega⟩
    rw [List.take_length]
    have e : rowSum ⟨mo, wa, no, he, ca, bg⟩ x (y + 1) = rowSum ⟨mo, wa, no, he, ca, bg⟩ x y + sumP (at3 wa x y) := rfl
    rw [e]; omega
  · have ey : y = mo.length := by omega
    subst ey
    refine ⟨inK_i64.2 (by omega), x + 1, by omega, by omega, ?_, by omega⟩
    have e : sumTo (x + 1) (fun p => rowSum ⟨mo, wa, no, he, ca, bg⟩ p mo.length) = sumTo x (fun p => rowSum ⟨mo, wa, no, he, ca, bg⟩ p mo.length) + rowSum ⟨mo, wa, no, he, ca, bg⟩ x mo.length := rfl
    rw [e]; omega
  · have ex : x = mo.length := by omega
    subst ex
    exact hk
theorem okWhole : OwnOk Try.prog glK 24 oWhole := by
  refine own_of (CxOk.mk' Et_ok rfl mixed (gl := glK) (GOk.cons okSum Try.func22 rfl rfl GOk.nil) (GoOk.cons okMoney Try.func27 rfl rfl (GoOk.cons okWay Try.func26 rfl rfl GoOk.nil)) noIt) Try.func24 (c := Try.f24.body.getD .skip) (rvs := [(.tmp 4, I)]) (by kernel_rfl) (by kernel_rfl) (by kernel_rfl) ?_
  intro args ob k h hw1 hw2
  clear hw1 hw2
  unfold oWhole at h
  split at h
  · obtain ⟨⟨S, hn⟩, hk⟩ := h
    exact ⟨anWhole ⟨_, _, _, _, _, _⟩, whole_vc _ _ _ _ _ _ _ k S hn hk⟩
  · exact h.elim
theorem bks0 : BkS b0 ∧ BkS b1 ∧ BkS b2 ∧ BkS b3 := by
  have t2 : ∀ {p : Nat → Prop}, p 0 → p 1 → ∀ i, i < 2 → p i := fun h0 h1 i hi => by
    match i, hi with
    | 0, _ => exact h0
    | 1, _ => exact h1
  have t22 : ∀ {p : Nat → Nat → Prop}, p 0 0 → p 0 1 → p 1 0 → p 1 1 → ∀ i j, i < 2 → j < 2 → p i j := fun a b c d i j hi hj => by
    match i, j, hi, hj with
    | 0, 0, _, _ => exact a
    | 0, 1, _, _ => exact b
    | 1, 0, _, _ => exact c
    | 1, 1, _, _ => exact d
  have key : ∀ b : Bk, b.mo.length = 2 → b.no.length = 2 → b.wa.length = 2 → ((b.wa.getD 0 []).length = 2 ∧ (b.wa.getD 1 []).length = 2) → b.he.length = 2 → ((b.he.getD 0 []).length = 2 ∧ (b.he.getD 1 []).length = 2) → b.ca.length = 2 → ((b.ca.getD 0 []).length = 2 ∧ (b.ca.getD 1 []).length = 2) →
      (∀ i, i < 2 → -1000000000 ≤ b.mo.getD i 0 ∧ b.mo.getD i 0 ≤ 1000000000) → (∀ i j, i < 2 → j < 2 → -1000000000 ≤ at2 b.ca i j ∧ at2 b.ca i j ≤ 1000000000) → (∀ i j, i < 2 → j < 2 → (at3 b.wa i j).length ≤ 100000) → (∀ i j, i < 2 → j < 2 → ∀ v, v ∈ at3 b.wa i j → -1000000000 ≤ v ∧ v ≤ 1000000000) → BkS b := by
    intro b h1 h2 h3 h4 h5 h6 h7 h8 h9 h10 h11 h12
    refine ⟨by omega, by omega, by omega, by omega, ?_, ?_, by omega, ?_, by omega, ?_, ?_, ?_, ?_⟩
    · rw [h1]; exact t2 h4.1 h4.2
    · rw [h1]; exact h11
    · rw [h1]; exact t2 h6.1 h6.2
    · rw [h1]; exact t2 h8.1 h8.2
    · rw [h1]; exact h9
    · rw [h1]; exact h10
    · rw [h1]; exact fun i j v hi hj hv => h12 i j hi hj v hv
  refine ⟨key _ rfl rfl rfl ⟨rfl, rfl⟩ rfl ⟨rfl, rfl⟩ rfl ⟨rfl, rfl⟩ (t2 (by decide) (by decide)) (t22 (by decide) (by decide) (by decide) (by decide)) (t22 (by decide) (by decide) (by decide) (by decide)) (t22 (by decide) (by decide) (by decide) (by decide)),
    key _ rfl rfl rfl ⟨rfl, rfl⟩ rfl ⟨rfl, rfl⟩ rfl ⟨rfl, rfl⟩ (t2 (by decide) (by decide)) (t22 (by decide) (by decide) (by decide) (by decide)) (t22 (by decide) (by decide) (by decide) (by decide)) (t22 (by decide) (by decide) (by decide) (by decide)),
    key _ rfl rfl rfl ⟨rfl, rfl⟩ rfl ⟨rfl, rfl⟩ rfl ⟨rfl, rfl⟩ (t2 (by decide) (by decide)) (t22 (by decide) (by decide) (by decide) (by decide)) (t22 (by decide) (by decide) (by decide) (by decide)) (t22 (by decide) (by decide) (by decide) (by decide)),
    key _ rfl rfl rfl ⟨rfl, rfl⟩ rfl ⟨rfl, rfl⟩ rfl ⟨rfl, rfl⟩ (t2 (by decide) (by decide)) (t22 (by decide) (by decide) (by decide) (by decide)) (t22 (by decide) (by decide) (by decide) (by decide)) (t22 (by decide) (by decide) (by decide) (by decide))⟩
theorem okFact : PlainOk Try.prog glK 20 cFact := by
  refine plain_of (CxOk.mk' Et_ok rfl mixed (gl := glK) (GOk.cons okInts Try.func32 rfl rfl GOk.nil) (GoOk.cons okNew Try.func21 rfl rfl (GoOk.cons okDo Try.func23 rfl rfl (GoOk.cons okMoney Try.func27 rfl rfl (GoOk.cons okWay Try.func26 rfl rfl GoOk.nil)))) noIt) Try.func20 (c := Try.f20.body.getD .skip) (rvs := [(.tmp 0, .bool)]) (by kernel_rfl) (by kernel_rfl) (by kernel_rfl) ?_
  intro ds k ⟨hp, hk⟩ hwf
  obtain ⟨rfl, -⟩ := dest0 hp
  have hk : k [⟨.bool, true⟩] := hk
  refine ⟨anFact, ?_⟩
  rw [vcFact]
  have e : newE (((List.replicate 2 0).set 0 7).set 1 2) = 0 := by decide
  obtain ⟨S0, S1, S2, S3⟩ := bks0
  refine ⟨fun _ => ⟨⟨fun h => absurd h (by decide), fun _ => ⟨0, by decide⟩⟩, fun _ _ => ⟨⟨S0, ⟨0, by decide⟩⟩, fun _ _ => ⟨⟨S1, ⟨0, by decide⟩⟩, fun _ _ => ⟨⟨S2, ⟨0, by decide⟩⟩, fun _ _ => ⟨fun _ => ⟨fun _ => ⟨fun _ => ⟨by decide, ⟨by decide, by decide⟩, fun _ => ⟨S3, ⟨by decide, by decide⟩, ?_⟩, fun h => absurd h (by decide)⟩, fun h => absurd h (by decide)⟩, fun h => absurd h (by decide)⟩, fun h => absurd h (by decide)⟩⟩⟩⟩⟩, fun h => absurd e h⟩
  exact hk
end Go.Proofs.Ytjgdpblaghhfhaa.N

/- Banks: the mathematics of notes taken while money is on its way. No program in sight. -/
namespace Go.Proofs.Ytjgdpblaghhfhaa.N
open Go.Vc
/-! Sums. -/
theorem sumTo_congr {n : Nat} {f g : Nat → Int} (h : ∀ i, i < n → f i = g i) : sumTo n f = sumTo n g := by
  induction n with
  | zero => rfl
  | succ m ih =>
    show sumTo m f + f m = sumTo m g + g m
    rw [ih fun i hi => h i (by omega), h m (by omega)]
theorem sumTo_upd {n : Nat} {f g : Nat → Int} (a : Nat) (ha : a < n) (h : ∀ i, i < n → i ≠ a → g i = f i) : sumTo n g = sumTo n f + (g a - f a) := by
  induction n with
  | zero => omega
  | succ m ih =>
    show sumTo m g + g m = sumTo m f + f m + (g a - f a)
    by_cases e : a = m
    · subst e
      rw [sumTo_congr (f := g) (g := f) fun i hi => h i (by omega) (by omega)]
      omega
    · rw [ih (by omega) fun i hi => h i (by omega), h m (by omega) (by omega)]
      omega
def sum2 (n : Nat) (f : Nat → Nat → Int) : Int := sumTo n fun i => sumTo n fun j => f i j
theorem sum2_congr {n : Nat} {f g : Nat → Nat → Int} (h : ∀ i j, i < n → j < n → f i j = g i j) : sum2 n f = sum2 n g :=
  sumTo_congr fun i hi => sumTo_congr fun j hj => h i j hi hj
theorem sum2_upd {n : Nat} {f g : Nat → Nat → Int} (a b : Nat) (ha : a < n) (hb : b < n) (h : ∀ i j, i < n → j < n → ¬ (i = a ∧ j = b) → g i j = f i j) : sum2 n g = sum2 n f + (g a b - f a b) := by
  have e1 : sumTo n (fun j => g a j) = sumTo n (fun j => f a j) + (g a b - f a b) := sumTo_upd b hb fun j hj hn => h a j ha hj (by omega)
  have e2 := sumTo_upd (f := fun i => sumTo n fun j => f i j) (g := fun i => sumTo n fun j => g i j) a ha fun i hi hn => sumTo_congr fun j hj => h i j hi hj (by omega)
  show sumTo n (fun i => sumTo n fun j => g i j) = sumTo n (fun i => sumTo n fun j => f i j) + (g a b - f a b)
  rw [e2]
  show _ + (sumTo n (fun j => g a j) - sumTo n (fun j => f a j)) = _
  rw [e1]
  omega
theorem sumTo_nonneg {n : Nat} {f : Nat → Int} (h : ∀ i, i < n → 0 ≤ f i) : 0 ≤ sumTo n f := by
  induction n with
  | zero => exact Int.le_refl 0
  | succ m ih =>
    show 0 ≤ sumTo m f + f m
    have := ih fun i hi => h i (by omega)
    have := h m (by omega)
    omega
theorem le_sumTo {n : Nat} {f : Nat → Int} (h : ∀ i, i < n → 0 ≤ f i) (a : Nat) (ha : a < n) : f a ≤ sumTo n f := by
  induction n with
  | zero => omega
  | succ m ih =>
    show f a ≤ sumTo m f + f m
    have h1 := sumTo_nonneg (n := m) (f := f) fun i hi => h i (by omega)
    have h2 := h m (by omega)
    by_cases e : a = m
    · subst e; omega
    · have := ih (fun i hi => h i (by omega)) (by omega); omega
theorem sum2_nonneg {n : Nat} {f : Nat → Nat → Int} (h : ∀ i j, i < n → j < n → 0 ≤ f i j) : 0 ≤ sum2 n f := sumTo_nonneg fun i hi => sumTo_nonneg fun j hj => h i j hi hj
theorem le_sum2 {n : Nat} {f : Nat → Nat → Int} (h : ∀ i j, i < n → j < n → 0 ≤ f i j) (a b : Nat) (ha : a < n) (hb : b < n) : f a b ≤ sum2 n f := by
  have h1 := le_sumTo (n := n) (f := fun i => sumTo n fun j => f i j) (fun i hi => sumTo_nonneg fun j hj => h i j hi hj) a ha
  have h2 := le_sumTo (n := n) (f := fun j => f a j) (fun j hj => h a j ha hj) b hb
  exact Int.le_trans h2 h1
/-! Ways. -/
/-- what is paid ahead of the mark -/
def pre : List Int → Int
  | [] => 0
  | v :: r => if v = -1 then 0 else (if 0 < v then v else 0) + pre r
theorem sumP_nonneg : ∀ l : List Int, 0 ≤ sumP l
  | [] => Int.le_refl 0
  | v :: r => by
    have := sumP_nonneg r
    show 0 ≤ (if 0 < v then v else 0) + sumP r
    split <;> omega
theorem pre_nonneg : ∀ l : List Int, 0 ≤ pre l
  | [] => Int.le_refl 0
  | v :: r => by
    have := pre_nonneg r
    show 0 ≤ if v = -1 then 0 else (if 0 < v then v else 0) + pre r
    split
    · exact Int.le_refl 0
    · split <;> omega
theorem pre_has : ∀ {w : List Int} (l : List Int), -1 ∈ w → pre (w ++ l) = pre w
  | [], _, h => by cases h
  | v :: r, l, h => by
    show (if v = -1 then 0 else (if 0 < v then v else 0) + pre (r ++ l)) = if v = -1 then 0 else (if 0 < v then v else 0) + pre r
    by_cases e : v = -1
    · rw [if_pos e, if_pos e]
    · rw [if_neg e, if_neg e, pre_has l (by cases h with
        | head => exact absurd rfl e
        | tail _ h => exact h)]
theorem pre_mark : ∀ {w : List Int}, -1 ∉ w → pre (w ++ [-1]) = sumP w
  | [], _ => rfl
  | v :: r, h => by
    show (if v = -1 then 0 else (if 0 < v then v else 0) + pre (r ++ [-1])) = (if 0 < v then v else 0) + sumP r
    rw [if_neg fun e => h (by rw [e]; exact List.mem_cons_self), pre_mark fun e => h (List.mem_cons_of_mem _ e)]
/-- what there is in the way from j to i, and was paid ahead of j's note -/
def rst (no : Int) (he : Bool) (w : List Int) : Int := if 0 ≤ no then (if he = true then 0 else pre w) else sumP w
theorem rst_nonneg (no : Int) (he : Bool) (w : List Int) : 0 ≤ rst no he w := by
  unfold rst
  split
  · split
    · exact Int.le_refl 0
    · exact pre_nonneg w
  · exact sumP_nonneg w
/-- what holds at all times -/
structure G (n : Nat) (mo : Nat → Int) (wa : Nat → Nat → List Int) (no : Nat → Int) (he : Nat → Nat → Bool) (ca : Nat → Nat → Int) (T : Int) : Prop where
  mo0 : ∀ i, i < n → 0 ≤ mo i
  ca0 : ∀ i j, i < n → j < n → 0 ≤ ca i j
  en : ∀ i j v, i < n → j < n → v ∈ wa i j → v = -1 ∨ (0 ≤ v ∧ v ≤ 1000)
  cn : ∀ i j, i < n → j < n → (wa i j).count (-1) = if i ≠ j ∧ 0 ≤ no i ∧ he j i = false then 1 else 0
  hn : ∀ i j, i < n → j < n → he i j = true → 0 ≤ no i ∧ 0 ≤ no j ∧ i ≠ j
  cz : ∀ i j, i < n → j < n → no i < 0 ∨ i = j → ca i j = 0
  wz : ∀ i, i < n → wa i i = []
  wl : ∀ i j, i < n → j < n → (wa i j).length ≤ 8 + (wa i j).count (-1)
  tot : sumTo n mo + sum2 n (fun i j => sumP (wa i j)) = T
  cut : sumTo n (fun i => if 0 ≤ no i then no i else mo i) + sum2 n (fun i j => ca i j + rst (no j) (he i j) (wa j i)) = T
section
variable {n : Nat} {mo mo' : Nat → Int} {wa wa' : Nat → Nat → List Int} {no no' : Nat → Int} {he he' : Nat → Nat → Bool} {ca ca' : Nat → Nat → Int} {T : Int}
/-- a payment is sent -/
theorem G.pay (g : G n mo wa no he ca T) {f t : Nat} {s : Int} (hf : f < n) (ht : t < n) (ft : f ≠ t) (s0 : 0 ≤ s) (s1 : s ≤ 1000) (hs : s ≤ mo f) (hl : (wa f t).length < 8)
    (em : ∀ i, i < n → mo' i = if i = f then mo f - s else mo i) (ew : ∀ i j, i < n → j < n → wa' i j = if i = f ∧ j = t then wa f t ++ [s] else wa i j) : G n mo' wa' no he ca T := by
  have ns : s ≠ -1 := by omega
  have ec : ∀ i j, i < n → j < n → (wa' i j).count (-1) = (wa i j).count (-1) := fun i j hi hj => by
    rw [ew i j hi hj]
    split
    · next h => obtain ⟨rfl, rfl⟩ := h; rw [List.count_append, List.count_cons, List.count_nil, if_neg (by simpa using ns)]; rfl
    · rfl
  have sp : sumP (wa' f t) = sumP (wa f t) + s := by
    rw [ew f t hf ht, if_pos ⟨rfl, rfl⟩, sumP_app]
    show _ + ((if 0 < s then s else 0) + 0) = _
    split <;> omega
  refine ⟨?_, g.ca0, ?_, ?_, g.hn, g.cz, ?_, ?_, ?_, ?_⟩
  · intro i hi; rw [em i hi]; split
    · omega
    · exact g.mo0 i hi
  · intro i j v hi hj hv
    rw [ew i j hi hj] at hv
    split at hv
    · next h =>
      obtain ⟨rfl, rfl⟩ := h
      rcases List.mem_append.1 hv with h | h
      · exact g.en _ _ v hi hj h
      · have := List.mem_singleton.1 h; right; omega
    · exact g.en i j v hi hj hv
  · intro i j hi hj; rw [ec i j hi hj]; exact g.cn i j hi hj
  · intro i hi; rw [ew i i hi hi, if_neg (by omega)]; exact g.wz i hi
  · intro i j hi hj
    rw [ec i j hi hj, ew i j hi hj]
    split
    · rw [List.length_append]; show _ + 1 ≤ _; omega
    · exact g.wl i j hi hj
  · have e1 := sumTo_upd (f := mo) (g := mo') f hf fun i hi h => by rw [em i hi, if_neg h]
    have e2 := sum2_upd (f := fun i j => sumP (wa i j)) (g := fun i j => sumP (wa' i j)) f t hf ht fun i j hi hj h => by rw [ew i j hi hj, if_neg h]
    have e3 := g.tot
    have e4 := em f hf
    rw [if_pos rfl] at e4
    simp only [sp] at e2
    omega
  · have e3 := g.cut
    have e4 := em f hf
    rw [if_pos rfl] at e4
    have e1 := sumTo_upd (f := fun i => if 0 ≤ no i then no i else mo i) (g := fun i => if 0 ≤ no i then no i else mo' i) f hf fun i hi h => by rw [em i hi, if_neg h]
    have e2 := sum2_upd (f := fun i j => ca i j + rst (no j) (he i j) (wa j i)) (g := fun i j => ca i j + rst (no j) (he i j) (wa' j i)) t f ht hf fun i j hi hj h => by rw [ew j i hj hi, if_neg (by omega)]
    have e5 : rst (no f) (he t f) (wa' f t) = rst (no f) (he t f) (wa f t) + if 0 ≤ no f then 0 else s := by
      unfold rst
      by_cases hn : 0 ≤ no f
      · simp only [if_pos hn]
        by_cases hh : he t f = true
        · rw [if_pos hh, if_pos hh]; rfl
        · rw [if_neg hh, if_neg hh, ew f t hf ht, if_pos ⟨rfl, rfl⟩, pre_has]
          · omega
          · have := g.cn f t hf ht
            rw [if_pos ⟨ft, hn, by simpa using hh⟩] at this
            exact List.count_pos_iff.1 (by omega)
      · simp only [if_neg hn]; exact sp
    simp only [e5] at e2
    by_cases hn : 0 ≤ no f
    · simp only [if_pos hn] at e1 e2; omega
    · simp only [if_neg hn] at e1 e2; omega
/-- a process is noted -/
theorem G.note (g : G n mo wa no he ca T) {p : Nat} (hp : p < n) (hu : no p < 0)
    (ew : ∀ i j, i < n → j < n → wa' i j = if i = p ∧ j ≠ p then wa i j ++ [-1] else wa i j) (en' : ∀ i, i < n → no' i = if i = p then mo p else no i) : G n mo wa' no' he ca T := by
  have hnp : no' p = mo p := by rw [en' p hp, if_pos rfl]
  have hno : ∀ i, i < n → i ≠ p → no' i = no i := fun i hi h => by rw [en' i hi, if_neg h]
  have hh : ∀ i, i < n → he i p = false := fun i hi => by
    cases h : he i p
    · rfl
    · have := (g.hn i p hi hp h).2.1; omega
  have nm : ∀ j, j < n → -1 ∉ wa p j := fun j hj h => by
    have h1 := g.cn p j hp hj
    rw [if_neg (by omega)] at h1
    have := List.count_pos_iff.2 h
    omega
  have m0 := g.mo0 p hp
  refine ⟨g.mo0, g.ca0, ?_, ?_, ?_, ?_, ?_, ?_, ?_, ?_⟩
  · intro i j v hi hj hv
    rw [ew i j hi hj] at hv
    split at hv
    · rcases List.mem_append.1 hv with h | h
      · exact g.en _ _ v hi hj h
      · left; exact List.mem_singleton.1 h
    · exact g.en i j v hi hj hv
  · intro i j hi hj
    rw [ew i j hi hj]
    by_cases e : i = p
    · subst e
      by_cases e2 : j = i
      · subst e2
        rw [if_neg (by omega), if_neg (by omega), g.wz j hj]; rfl
      · rw [if_pos ⟨rfl, e2⟩, if_pos ⟨fun h => e2 h.symm, by omega, hh j hj⟩, List.count_append]
        have : List.count (-1) (wa i j) = 0 := List.count_eq_zero.2 (nm j hj)
        rw [this]; rfl
    · rw [if_neg (by omega), hno i hi e]; exact g.cn i j hi hj
  · intro i j hi hj h
    obtain ⟨h1, h2, h3⟩ := g.hn i j hi hj h
    have : i ≠ p := fun e => by subst e; omega
    have : j ≠ p := fun e => by subst e; omega
    rw [hno i hi ‹_›, hno j hj ‹_›]
    exact ⟨h1, h2, h3⟩
  · intro i j hi hj h
    by_cases e : i = p
    · subst e; exact g.cz i j hi hj (.inl hu)
    · rw [hno i hi e] at h; exact g.cz i j hi hj h
  · intro i hi; rw [ew i i hi hi, if_neg (by omega)]; exact g.wz i hi
  · intro i j hi hj
    rw [ew i j hi hj]
    have := g.wl i j hi hj
    split
    · rw [List.length_append, List.count_append]; show _ + 1 ≤ 8 + (_ + 1); omega
    · exact this
  · rw [← g.tot]
    congr 1
    refine sum2_congr fun i j hi hj => ?_
    rw [ew i j hi hj]
    split
    · rw [sumP_app]; exact Int.add_zero _
    · rfl
  · rw [← g.cut]
    congr 1
    · refine sumTo_congr fun i hi => ?_
      by_cases e : i = p
      · subst e; rw [hnp, if_pos m0, if_neg (by omega)]
      · rw [hno i hi e]
    · refine sum2_congr fun i j hi hj => ?_
      congr 1
      by_cases e : j = p
      · subst e
        unfold rst
        rw [hnp, if_pos m0, hh i hi, if_neg (by decide), if_neg (by omega), ew j i hj hi]
        by_cases e2 : i = j
        · subst e2; rw [if_neg (by omega), g.wz i hi]; rfl
        · rw [if_pos ⟨rfl, e2⟩, pre_mark (nm i hi)]
      · rw [hno j hj e, ew j i hj hi, if_neg (by omega)]
/-- a mark comes to one that is noted -/
theorem G.mark (g : G n mo wa no he ca T) {f t : Nat} (hf : f < n) (ht : t < n) (ft : f ≠ t) (r : List Int) (hw : wa f t = -1 :: r) (hnt : 0 ≤ no t)
    (ew : ∀ i j, i < n → j < n → wa' i j = if i = f ∧ j = t then r else wa i j) (eh : ∀ i j, i < n → j < n → he' i j = if i = t ∧ j = f then true else he i j) : G n mo wa' no he' ca T := by
  have hc := g.cn f t hf ht
  have c1 : List.count (-1) (wa f t) = List.count (-1) r + 1 := by rw [hw]; simp
  have hy : 0 ≤ no f ∧ he t f = false := by
    by_cases h : f ≠ t ∧ 0 ≤ no f ∧ he t f = false
    · exact h.2
    · rw [if_neg h] at hc; omega
  rw [if_pos ⟨ft, hy⟩] at hc
  have cr : List.count (-1) r = 0 := by omega
  have eo : ∀ i j, i < n → j < n → ¬ (i = f ∧ j = t) → wa' i j = wa i j ∧ he' j i = he j i := fun i j hi hj h => ⟨by rw [ew i j hi hj, if_neg h], by rw [eh j i hj hi, if_neg (by omega)]⟩
  have ex : wa' f t = r ∧ he' t f = true := ⟨by rw [ew f t hf ht, if_pos ⟨rfl, rfl⟩], by rw [eh t f ht hf, if_pos ⟨rfl, rfl⟩]⟩
  have sp : sumP (wa' f t) = sumP (wa f t) := by rw [ex.1, hw]; show _ = (0 : Int) + sumP r; omega
  refine ⟨g.mo0, g.ca0, ?_, ?_, ?_, g.cz, ?_, ?_, ?_, ?_⟩
  · intro i j v hi hj hv
    rw [ew i j hi hj] at hv
    split at hv
    · next h => obtain ⟨rfl, rfl⟩ := h; exact g.en _ _ v hi hj (by rw [hw]; exact List.mem_cons_of_mem _ hv)
    · exact g.en i j v hi hj hv
  · intro i j hi hj
    by_cases h : i = f ∧ j = t
    · obtain ⟨rfl, rfl⟩ := h
      rw [ex.1, ex.2, cr, if_neg (by simp)]
    · rw [(eo i j hi hj h).1, (eo i j hi hj h).2]; exact g.cn i j hi hj
  · intro i j hi hj h
    by_cases e : i = t ∧ j = f
    · obtain ⟨rfl, rfl⟩ := e; exact ⟨hnt, hy.1, fun e => ft e.symm⟩
    · rw [eh i j hi hj, if_neg e] at h; exact g.hn i j hi hj h
  · intro i hi; rw [ew i i hi hi, if_neg (by omega)]; exact g.wz i hi
  · intro i j hi hj
    by_cases h : i = f ∧ j = t
    · obtain ⟨rfl, rfl⟩ := h
      have := g.wl i j hi hj
      rw [hw] at this
      rw [ex.1, cr]
      rw [List.count_cons, cr] at this
      simp at this
      omega
    · rw [(eo i j hi hj h).1]; exact g.wl i j hi hj
  · rw [← g.tot]
    congr 1
    refine sum2_congr fun i j hi hj => ?_
    by_cases h : i = f ∧ j = t
    · obtain ⟨rfl, rfl⟩ := h; exact sp
    · rw [(eo i j hi hj h).1]
  · rw [← g.cut]
    congr 1
    refine sum2_congr fun i j hi hj => ?_
    congr 1
    by_cases h : j = f ∧ i = t
    · obtain ⟨rfl, rfl⟩ := h
      unfold rst
      rw [if_pos hy.1, if_pos hy.1, ex.2, hy.2, if_pos rfl, if_neg (by decide), hw]
      rfl
    · rw [(eo j i hj hi h).1, (eo j i hj hi h).2]
/-- a payment comes -/
theorem G.take (g : G n mo wa no he ca T) {f t : Nat} (hf : f < n) (ht : t < n) (ft : f ≠ t) (v : Int) (r : List Int) (hw : wa f t = v :: r) (hv : v ≠ -1)
    (em : ∀ i, i < n → mo' i = if i = t then mo t + v else mo i) (ew : ∀ i j, i < n → j < n → wa' i j = if i = f ∧ j = t then r else wa i j)
    (ec : ∀ i j, i < n → j < n → ca' i j = if i = t ∧ j = f ∧ 0 ≤ no t ∧ he t f = false then ca t f + v else ca i j) : G n mo' wa' no he ca' T := by
  have v0 : 0 ≤ v := by
    have := g.en f t v hf ht (by rw [hw]; exact List.mem_cons_self)
    omega
  have c1 : List.count (-1) (wa f t) = List.count (-1) r := by rw [hw, List.count_cons, if_neg (by simpa using hv)]; rfl
  have eo : ∀ i j, i < n → j < n → ¬ (i = f ∧ j = t) → wa' i j = wa i j ∧ ca' j i = ca j i := fun i j hi hj h => ⟨by rw [ew i j hi hj, if_neg h], by rw [ec j i hj hi, if_neg (by omega)]⟩
  have ex : wa' f t = r := by rw [ew f t hf ht, if_pos ⟨rfl, rfl⟩]
  have e0 := em t ht
  rw [if_pos rfl] at e0
  have sp : sumP (wa' f t) = sumP (wa f t) - v := by
    rw [ex, hw]
    show _ = (if 0 < v then v else 0) + sumP r - v
    split <;> omega
  refine ⟨?_, ?_, ?_, ?_, g.hn, ?_, ?_, ?_, ?_, ?_⟩
  · intro i hi; rw [em i hi]
    have := g.mo0 i hi
    have := g.mo0 t ht
    split <;> omega
  · intro i j hi hj; rw [ec i j hi hj]
    have := g.ca0 i j hi hj
    have := g.ca0 t f ht hf
    split <;> omega
  · intro i j u hi hj hu
    rw [ew i j hi hj] at hu
    split at hu
    · next h => obtain ⟨rfl, rfl⟩ := h; exact g.en _ _ u hi hj (by rw [hw]; exact List.mem_cons_of_mem _ hu)
    · exact g.en i j u hi hj hu
  · intro i j hi hj
    by_cases h : i = f ∧ j = t
    · obtain ⟨rfl, rfl⟩ := h
      rw [ex, ← c1]; exact g.cn _ _ hi hj
    · rw [(eo i j hi hj h).1]; exact g.cn i j hi hj
  · intro i j hi hj h
    rw [ec i j hi hj]
    split
    · next h2 => obtain ⟨h3, h4, h5, -⟩ := h2; subst h3; subst h4; omega
    · exact g.cz i j hi hj h
  · intro i hi; rw [ew i i hi hi, if_neg (by omega)]; exact g.wz i hi
  · intro i j hi hj
    by_cases h : i = f ∧ j = t
    · obtain ⟨rfl, rfl⟩ := h
      have := g.wl i j hi hj
      rw [c1, hw, List.length_cons] at this
      rw [ex]
      omega
    · rw [(eo i j hi hj h).1]; exact g.wl i j hi hj
  · have e1 := sumTo_upd (f := mo) (g := mo') t ht fun i hi h => by rw [em i hi, if_neg h]
    have e2 := sum2_upd (f := fun i j => sumP (wa i j)) (g := fun i j => sumP (wa' i j)) f t hf ht fun i j hi hj h => by rw [(eo i j hi hj h).1]
    have e3 := g.tot
    simp only [sp] at e2
    omega
  · have e3 := g.cut
    have e1 := sumTo_upd (f := fun i => if 0 ≤ no i then no i else mo i) (g := fun i => if 0 ≤ no i then no i else mo' i) t ht fun i hi h => by rw [em i hi, if_neg h]
    have e2 := sum2_upd (f := fun i j => ca i j + rst (no j) (he i j) (wa j i)) (g := fun i j => ca' i j + rst (no j) (he i j) (wa' j i)) t f ht hf fun i j hi hj h => by rw [(eo j i hj hi (by omega)).1, (eo j i hj hi (by omega)).2]
    have e4 := ec t f ht hf
    have e5 : rst (no f) (he t f) (wa' f t) = rst (no f) (he t f) (wa f t) - if he t f = true then 0 else v := by
      unfold rst
      by_cases hn : 0 ≤ no f
      · simp only [if_pos hn]
        by_cases hh : he t f = true
        · simp only [if_pos hh]; rfl
        · simp only [if_neg hh]
          rw [ex, hw]
          show _ = (if v = -1 then 0 else (if 0 < v then v else 0) + pre r) - v
          rw [if_neg hv]
          split <;> omega
      · have hh : ¬ he t f = true := fun h => hn (g.hn t f ht hf h).2.1
        simp only [if_neg hn, if_neg hh]; exact sp
    simp only [e5] at e2
    by_cases hn : 0 ≤ no t
    · simp only [if_pos hn] at e1
      by_cases hh : he t f = true
      · rw [if_neg (by simp [hh])] at e4
        simp only [if_pos hh] at e2
        omega
      · rw [if_pos ⟨rfl, rfl, hn, by simpa using hh⟩] at e4
        simp only [if_neg hh] at e2
        omega
    · have hh : ¬ he t f = true := fun h => hn (g.hn t f ht hf h).1
      rw [if_neg (by omega)] at e4
      simp only [if_neg hn] at e1
      simp only [if_neg hh] at e2
      omega
end
end Go.Proofs.Ytjgdpblaghhfhaa.N

/- Banks: what holds of a bank at all times. -/
namespace Go.Proofs.Ytjgdpblaghhfhaa.N
open Go.Vc
structure Gd (n : Nat) (b : Bk) (T : Int) : Prop where
  n1 : 1 ≤ n
  n5 : n ≤ 5
  mo : b.mo.length = n
  no : b.no.length = n
  wa : Sq b.wa n
  he : Sq b.he n
  ca : Sq b.ca n
  g : G n (fun i => b.mo.getD i 0) (at3 b.wa) (fun i => b.no.getD i 0) (at2b b.he) (at2 b.ca) T
  b0 : b.bg = false → ∀ i, i < n → b.no.getD i 0 < 0
  b1 : b.bg = true → ∃ i, i < n ∧ 0 ≤ b.no.getD i 0
theorem at3_wr {k : L3} {n : Nat} (h : Sq k n) {a b : Nat} (v : List Int) (ha : a < n) (hb : b < n) (i j : Nat) : at3 (wr3 k a b v) i j = if i = a ∧ j = b then v else at3 k i j := by
  have := atG_wr h v [] ha hb i j
  refine this.trans ?_
  by_cases e : i = a ∧ j = b
  · rw [if_pos e, if_pos ⟨e.1.symm, e.2.symm⟩]
  · rw [if_neg e, if_neg fun h => e ⟨h.1.symm, h.2.symm⟩]; rfl
theorem at2_wr {k : L2} {n : Nat} (h : Sq k n) {a b : Nat} (v : Int) (ha : a < n) (hb : b < n) (i j : Nat) : at2 (wr2 k a b v) i j = if i = a ∧ j = b then v else at2 k i j := by
  have := atG_wr h v 0 ha hb i j
  refine this.trans ?_
  by_cases e : i = a ∧ j = b
  · rw [if_pos e, if_pos ⟨e.1.symm, e.2.symm⟩]
  · rw [if_neg e, if_neg fun h => e ⟨h.1.symm, h.2.symm⟩]; rfl
theorem at2b_wr {k : B2} {n : Nat} (h : Sq k n) {a b : Nat} (v : Bool) (ha : a < n) (hb : b < n) (i j : Nat) : at2b (wr2b k a b v) i j = if i = a ∧ j = b then v else at2b k i j := by
  have := atG_wr h v false ha hb i j
  refine this.trans ?_
  by_cases e : i = a ∧ j = b
  · rw [if_pos e, if_pos ⟨e.1.symm, e.2.symm⟩]
  · rw [if_neg e, if_neg fun h => e ⟨h.1.symm, h.2.symm⟩]; rfl
theorem getD_set' {α : Type} (l : List α) (a : Nat) (v d : α) (i : Nat) (ha : a < l.length) : (l.set a v).getD i d = if i = a then v else l.getD i d := by
  rw [getD_set l a i v d ha]
  by_cases e : i = a
  · rw [if_pos e, if_pos e.symm]
  · rw [if_neg e, if_neg fun h => e h.symm]
theorem noteW_at' {w : L3} {n : Nat} (h : Sq w n) {p : Nat} (hp : p < n) {i j : Nat} (hj : j < n) : at3 (noteW w p n) i j = if i = p ∧ j ≠ p then at3 w i j ++ [-1] else at3 w i j := by
  rw [noteW_at h hp i j n (Nat.le_refl n)]
  by_cases e : i = p ∧ j ≠ p
  · rw [if_pos e, if_pos ⟨e.1, hj, e.2⟩]
  · rw [if_neg e, if_neg fun h => e ⟨h.1, h.2.2⟩]
section
variable {n : Nat} {b : Bk} {T : Int}
theorem Gd.note (g : Gd n b T) {p : Nat} (hp : p < n) (hu : b.no.getD p 0 < 0) : Gd n (noteF b p) T := by
  have hpn : p < b.no.length := by rw [g.no]; exact hp
  refine ⟨g.n1, g.n5, g.mo, (List.length_set ..).trans g.no, ?_, g.he, g.ca, ?_, fun h : true = false => absurd h (by decide), fun _ => ⟨p, hp, ?_⟩⟩
  · show Sq (noteW b.wa p b.mo.length) n
    exact noteW_sq g.wa hp _
  · refine g.g.note hp hu (fun i j hi hj => ?_) fun i hi => getD_set' _ _ _ _ _ hpn
    show at3 (noteW b.wa p b.mo.length) i j = _
    rw [g.mo]
    exact noteW_at' g.wa hp hj
  · show 0 ≤ (b.no.set p (b.mo.getD p 0)).getD p 0
    rw [getD_set' _ _ _ _ _ hpn, if_pos rfl]
    exact g.g.mo0 p hp
theorem drop_one {l : List Int} (h : l.length ≠ 0) : l = l.getD 0 0 :: l.drop 1 := by
  cases l with
  | nil => exact absurd rfl h
  | cons a r => rfl
theorem Gd.come (g : Gd n b T) {f t : Nat} (hf : f < n) (ht : t < n) (ft : f ≠ t) (hl : (at3 b.wa f t).length ≠ 0) :
    Gd n (comeF ⟨b.mo, wr3 b.wa f t ((at3 b.wa f t).drop 1), b.no, b.he, b.ca, b.bg⟩ ((at3 b.wa f t).getD 0 0) f t) T := by
  have hd := drop_one hl
  have s1 : Sq (wr3 b.wa f t ((at3 b.wa f t).drop 1)) n := Sq.wr g.wa _ hf
  unfold comeF
  by_cases e : (at3 b.wa f t).getD 0 0 = -1
  · rw [if_pos e]
    rw [e] at hd
    have hN : 0 ≤ b.no.getD f 0 := by
      have := g.g.cn f t hf ht
      by_cases h : f ≠ t ∧ 0 ≤ b.no.getD f 0 ∧ at2b b.he t f = false
      · exact h.2.1
      · rw [if_neg h, hd] at this; simp at this
    by_cases hn : b.no.getD t 0 < 0
    · simp only [if_pos hn]
      have htn : t < b.no.length := by rw [g.no]; exact ht
      refine ⟨g.n1, g.n5, g.mo, (List.length_set ..).trans g.no, noteW_sq s1 ht _, Sq.wr g.he _ ht, g.ca, ?_, fun h : true = false => absurd h (by decide), fun _ => ⟨t, ht, ?_⟩⟩
      · have g1 := g.g.note (wa' := fun i j => if i = t ∧ j ≠ t then at3 b.wa i j ++ [-1] else at3 b.wa i j) (no' := fun i => if i = t then b.mo.getD t 0 else b.no.getD i 0) ht hn (fun i j hi hj => rfl) (fun i hi => rfl)
        have g2 := g1.mark (wa' := at3 (noteW (wr3 b.wa f t ((at3 b.wa f t).drop 1)) t n)) (he' := at2b (wr2b b.he t f true)) hf ht ft ((at3 b.wa f t).drop 1) (by
            show (if f = t ∧ t ≠ t then _ else _) = _
            rw [if_neg (by omega)]; exact hd) (by
            show 0 ≤ if t = t then _ else _
            rw [if_pos rfl]; exact g.g.mo0 t ht) (fun i j hi hj => by
            show _ = if i = f ∧ j = t then _ else (if i = t ∧ j ≠ t then _ else _)
            rw [noteW_at' s1 ht hj, at3_wr g.wa _ hf ht]
            by_cases e1 : i = f ∧ j = t
            · rw [if_neg (by omega), if_pos e1, if_pos e1]
            · rw [if_neg e1, if_neg e1]) fun i j hi hj => at2b_wr g.he _ ht hf i j
        have e1 : (fun i => (b.no.set t (b.mo.getD t 0)).getD i 0) = fun i => if i = t then b.mo.getD t 0 else b.no.getD i 0 := funext fun i => getD_set' _ _ _ _ _ htn
        show G n (fun i => b.mo.getD i 0) (at3 (noteW (wr3 b.wa f t ((at3 b.wa f t).drop 1)) t b.mo.length)) (fun i => (b.no.set t (b.mo.getD t 0)).getD i 0) (at2b (wr2b b.he t f true)) (at2 b.ca) T
        rw [e1, g.mo]
        exact g2
      · show 0 ≤ (b.no.set t (b.mo.getD t 0)).getD t 0
        rw [getD_set' _ _ _ _ _ htn, if_pos rfl]
        exact g.g.mo0 t ht
    · simp only [if_neg hn]
      refine ⟨g.n1, g.n5, g.mo, g.no, s1, Sq.wr g.he _ ht, g.ca, ?_, g.b0, g.b1⟩
      exact g.g.mark hf ht ft ((at3 b.wa f t).drop 1) hd (by omega) (fun i j hi hj => at3_wr g.wa _ hf ht i j) fun i j hi hj => at2b_wr g.he _ ht hf i j
  · rw [if_neg e]
    have htm : t < b.mo.length := by rw [g.mo]; exact ht
    have gg : ∀ ca', (∀ i j, i < n → j < n → at2 ca' i j = if i = t ∧ j = f ∧ 0 ≤ b.no.getD t 0 ∧ at2b b.he t f = false then at2 b.ca t f + (at3 b.wa f t).getD 0 0 else at2 b.ca i j) → G n (fun i => (b.mo.set t (b.mo.getD t 0 + (at3 b.wa f t).getD 0 0)).getD i 0) (at3 (wr3 b.wa f t ((at3 b.wa f t).drop 1))) (fun i => b.no.getD i 0) (at2b b.he) (at2 ca') T := fun ca' hc =>
      g.g.take hf ht ft _ _ hd e (fun i hi => getD_set' _ _ _ _ _ htm) (fun i j hi hj => at3_wr g.wa _ hf ht i j) hc
    by_cases hc : 0 ≤ b.no.getD t 0 ∧ at2b b.he t f = false
    · simp only [if_pos hc]
      refine ⟨g.n1, g.n5, (List.length_set ..).trans g.mo, g.no, s1, g.he, Sq.wr g.ca _ ht, gg _ fun i j hi hj => ?_, g.b0, g.b1⟩
      rw [at2_wr g.ca _ ht hf]
      by_cases e1 : i = t ∧ j = f
      · rw [if_pos e1, if_pos ⟨e1.1, e1.2, hc⟩]
      · rw [if_neg e1, if_neg fun h => e1 ⟨h.1, h.2.1⟩]
    · simp only [if_neg hc]
      refine ⟨g.n1, g.n5, (List.length_set ..).trans g.mo, g.no, s1, g.he, g.ca, gg _ fun i j hi hj => ?_, g.b0, g.b1⟩
      rw [if_neg fun h => hc h.2.2]
theorem Gd.move (g : Gd n b T) (k f t s : Int) : Gd n (doF b k f t s).2 T := by
  unfold doF
  by_cases h1 : inB k 0 2 = false ∨ inB f 0 ((b.mo.length : Int) - 1) = false
  · rw [if_pos h1]; exact g
  rw [if_neg h1]
  have hf : 0 ≤ f ∧ f ≤ (b.mo.length : Int) - 1 := inB_iff.1 (by
    cases h : inB f 0 ((b.mo.length : Int) - 1)
    · exact absurd (.inr h) h1
    · rfl)
  rw [g.mo] at hf
  have hf' : f.toNat < n := by omega
  by_cases h2 : k = 2
  · rw [if_pos h2]
    by_cases h3 : b.bg = true
    · rw [if_pos h3]; exact g
    · rw [if_neg h3]; exact g.note hf' (g.b0 (by simpa using h3) _ hf')
  rw [if_neg h2]
  by_cases h3 : inB t 0 ((b.mo.length : Int) - 1) = false
  · rw [if_pos h3]; exact g
  rw [if_neg h3]
  have ht : 0 ≤ t ∧ t ≤ (b.mo.length : Int) - 1 := inB_iff.1 (by simpa using h3)
  rw [g.mo] at ht
  have ht' : t.toNat < n := by omega
  by_cases h4 : f = t
  · rw [if_pos h4]; exact g
  rw [if_neg h4]
  have ft : f.toNat ≠ t.toNat := by omega
  by_cases h5 : k = 0
  · rw [if_pos h5]
    by_cases h6 : inB s 0 1000 = false
    · rw [if_pos h6]; exact g
    rw [if_neg h6]
    have hs : 0 ≤ s ∧ s ≤ 1000 := inB_iff.1 (by simpa using h6)
    by_cases h7 : b.mo.getD f.toNat 0 < s
    · rw [if_pos h7]; exact g
    rw [if_neg h7]
    by_cases h8 : 8 ≤ (at3 b.wa f.toNat t.toNat).length
    · rw [if_pos h8]; exact g
    rw [if_neg h8]
    refine ⟨g.n1, g.n5, (List.length_set ..).trans g.mo, g.no, Sq.wr g.wa _ hf', g.he, g.ca, ?_, g.b0, g.b1⟩
    exact g.g.pay hf' ht' ft hs.1 hs.2 (by omega) (by omega) (fun i hi => getD_set' _ _ _ _ _ (by rw [g.mo]; exact hf')) fun i j hi hj => at3_wr g.wa _ hf' ht' i j
  · rw [if_neg h5]
    by_cases h6 : (at3 b.wa f.toNat t.toNat).length = 0
    · rw [if_pos h6]; exact g
    · rw [if_neg h6]; exact g.come hf' ht' ft h6
theorem Gd.bks (g : Gd n b T) (hT : T ≤ 100000) : BkS b := by
  have gg := g.g
  have w0 := sum2_nonneg (n := n) (f := fun i j => sumP (at3 b.wa i j)) fun i j _ _ => sumP_nonneg _
  have m0 := sumTo_nonneg (n := n) (f := fun i => b.mo.getD i 0) gg.mo0
  have c0 : ∀ i j, i < n → j < n → 0 ≤ at2 b.ca i j + rst (b.no.getD j 0) (at2b b.he i j) (at3 b.wa j i) := fun i j hi hj => by
    have := gg.ca0 i j hi hj
    have := rst_nonneg (b.no.getD j 0) (at2b b.he i j) (at3 b.wa j i)
    omega
  have x0 := sumTo_nonneg (n := n) (f := fun i => if 0 ≤ b.no.getD i 0 then b.no.getD i 0 else b.mo.getD i 0) fun i hi => by
    have := gg.mo0 i hi
    split <;> omega
  refine ⟨by rw [g.mo]; exact g.n1, by rw [g.mo]; exact g.n5, by rw [g.mo, g.no], by rw [g.mo]; exact g.wa.1, by rw [g.mo]; exact g.wa.2, ?_, by rw [g.mo]; exact g.he.1, by rw [g.mo]; exact g.he.2, by rw [g.mo]; exact g.ca.1, by rw [g.mo]; exact g.ca.2, ?_, ?_, ?_⟩
  · intro i j hi hj
    rw [g.mo] at hi hj
    have h1 := gg.wl i j hi hj
    have h2 := gg.cn i j hi hj
    split at h2 <;> omega
  · intro i hi
    rw [g.mo] at hi
    have h1 := gg.mo0 i hi
    have h2 := le_sumTo (n := n) (f := fun i => b.mo.getD i 0) gg.mo0 i hi
    have h3 := gg.tot
    omega
  · intro i j hi hj
    rw [g.mo] at hi hj
    have h1 := gg.ca0 i j hi hj
    have h2 := le_sum2 (n := n) c0 i j hi hj
    have h3 := gg.cut
    have h4 := rst_nonneg (b.no.getD j 0) (at2b b.he i j) (at3 b.wa j i)
    omega
  · intro i j v hi hj hv
    rw [g.mo] at hi hj
    have := gg.en i j v hi hj hv
    omega
end
theorem sumTo_zero (n : Nat) : sumTo n (fun _ => 0) = 0 := by
  induction n with
  | zero => rfl
  | succ m ih => show sumTo m (fun _ => 0) + 0 = 0; rw [ih]; rfl
theorem sum2_zero (n : Nat) : sum2 n (fun _ _ => 0) = 0 := (sumTo_congr fun i _ => sumTo_zero n).trans (sumTo_zero n)
theorem sumTo_sumL : ∀ (l : List Int) (i : Nat), i ≤ l.length → sumTo i (fun i => l.getD i 0) = sumL (l.take i)
  | l, 0, _ => by rw [List.take_zero]; rfl
  | l, i + 1, h => by
    show sumTo i _ + l.getD i 0 = _
    rw [sumTo_sumL l i (by omega), take_snoc (by omega), sumL_app]
    show _ = _ + (l.getD i 0 + 0)
    omega
theorem sumL_le1000 : ∀ (l : List Int), (∀ v ∈ l, v ≤ 1000) → sumL l ≤ 1000 * (l.length : Int)
  | [], _ => Int.le_refl 0
  | v :: r, h => by
    have h1 := sumL_le1000 r fun v hv => h v (List.mem_cons_of_mem _ hv)
    have h2 := h v List.mem_cons_self
    show v + sumL r ≤ 1000 * ((r.length + 1 : Nat) : Int)
    omega
theorem getD_rep {α : Type} (n i : Nat) (v d : α) (h : i < n) : (List.replicate n v).getD i d = v := by
  rw [List.getD_eq_getElem?_getD, List.getElem?_replicate, if_pos h]; rfl
theorem newE_zero {mo : List Int} (h : newE mo = 0) : 1 ≤ mo.length ∧ mo.length ≤ 5 ∧ ∀ v ∈ mo, 0 ≤ v ∧ v ≤ 1000 := by
  unfold newE at h
  by_cases h1 : mo.length = 0
  · rw [if_pos h1] at h; exact absurd h (by decide)
  rw [if_neg h1] at h
  by_cases h2 : 5 < mo.length
  · rw [if_pos h2] at h; exact absurd h (by decide)
  rw [if_neg h2] at h
  by_cases h3 : moOk mo = true
  · exact ⟨by omega, by omega, fun v hv => inB_iff.1 (List.all_eq_true.1 h3 v hv)⟩
  · rw [if_neg h3] at h; exact absurd h (by decide)
theorem Gd.new {mo : List Int} (h : newE mo = 0) : Gd mo.length (newB mo) (sumL mo) := by
  obtain ⟨h1, h5, hv⟩ := newE_zero h
  have sq : ∀ {α : Type} (v : α), Sq (List.replicate mo.length (List.replicate mo.length v)) mo.length := fun v => ⟨List.length_replicate, fun i hi => by rw [getD_rep _ _ _ _ hi]; exact List.length_replicate⟩
  have a3 : ∀ i j, i < mo.length → at3 (newB mo).wa i j = [] := fun i j hi => by
    show ((List.replicate mo.length (List.replicate mo.length ([] : List Int))).getD i []).getD j [] = []
    rw [getD_rep _ _ _ _ hi]
    by_cases hj : j < mo.length
    · exact getD_rep _ _ _ _ hj
    · rw [List.getD_eq_getElem?_getD, List.getElem?_replicate, if_neg hj]; rfl
  have a2 : ∀ i j, i < mo.length → j < mo.length → at2 (newB mo).ca i j = 0 := fun i j hi hj => by
    show ((List.replicate mo.length (List.replicate mo.length (0 : Int))).getD i []).getD j 0 = 0
    rw [getD_rep _ _ _ _ hi, getD_rep _ _ _ _ hj]
  have a2b : ∀ i j, i < mo.length → j < mo.length → at2b (newB mo).he i j = false := fun i j hi hj => by
    show ((List.replicate mo.length (List.replicate mo.length false)).getD i []).getD j false = false
    rw [getD_rep _ _ _ _ hi, getD_rep _ _ _ _ hj]
  have an : ∀ i, i < mo.length → (newB mo).no.getD i 0 = -1 := fun i hi => getD_rep _ _ _ _ hi
  have st : sumTo mo.length (fun i => mo.getD i 0) = sumL mo := by rw [sumTo_sumL mo _ (Nat.le_refl _), List.take_length]
  refine ⟨h1, h5, rfl, List.length_replicate, sq _, sq _, sq _, ⟨?_, ?_, ?_, ?_, ?_, ?_, ?_, ?_, ?_, ?_⟩, fun _ i hi => by rw [an i hi]; decide, fun h : false = true => absurd h (by decide)⟩
  · intro i hi; exact (hv _ (getD_memL hi 0)).1
  · intro i j hi hj; rw [a2 i j hi hj]; decide
  · intro i j v hi hj hv; rw [a3 i j hi] at hv; cases hv
  · intro i j hi hj; rw [a3 i j hi, if_neg]; · rfl
    · rw [an i hi]; exact fun h => absurd h.2.1 (by decide)
  · intro i j hi hj h; rw [a2b i j hi hj] at h; exact absurd h (by decide)
  · intro i j hi hj _; exact a2 i j hi hj
  · intro i hi; exact a3 i i hi
  · intro i j hi hj; rw [a3 i j hi]; exact Nat.zero_le _
  · show sumTo mo.length (fun i => mo.getD i 0) + _ = _
    rw [st, sum2_congr (g := fun _ _ => 0) fun i j hi hj => by rw [a3 i j hi]; rfl, sum2_zero]; omega
  · rw [sum2_congr (g := fun _ _ => 0) fun i j hi hj => by rw [a2 i j hi hj, a3 j i hj, an j hj]; rfl, sum2_zero, sumTo_congr (g := fun i => mo.getD i 0) fun i hi => by rw [an i hi]; rfl, st]; omega
theorem Gd.fold {n : Nat} {T : Int} : ∀ (l : List Mv) {b : Bk}, Gd n b T → Gd n (l.foldl stepB b) T
  | [], _, g => g
  | m :: r, _, g => Gd.fold r (g.move m.1 m.2.1 m.2.2.1 m.2.2.2.1)
theorem Gd.at {mo : List Int} (h : newE mo = 0) (mv : List Mv) (i : Nat) : Gd mo.length (bAt mo mv i) (sumL mo) := Gd.fold _ (Gd.new h)
theorem sumL_T {mo : List Int} (h : newE mo = 0) : sumL mo ≤ 5000 := by
  obtain ⟨h1, h5, hv⟩ := newE_zero h
  have := sumL_le1000 mo fun v h => (hv v h).2
  omega
theorem Gd.whole {n : Nat} {b : Bk} {T : Int} (g : Gd n b T) : wholeF b = T := by
  have h := g.g.tot
  have e : sumTo n (fun i => b.mo.getD i 0) = sumL b.mo := by rw [sumTo_sumL b.mo n (by rw [g.mo]; exact Nat.le_refl n), ← g.mo, List.take_length]
  rw [e] at h
  unfold wholeF
  rw [g.mo]
  exact h
end Go.Proofs.Ytjgdpblaghhfhaa.N

/- Banks: no move makes or loses money: the law SnapKeeps. -/
namespace Go.Proofs.Ytjgdpblaghhfhaa.N
open Go.Vc
theorem bAt_succ (mo : List Int) (mv : List Mv) {i : Nat} (h : i < mv.length) : stepB (bAt mo mv i) (mv.getD i (0, 0, 0, 0, ())) = bAt mo mv (i + 1) := by
  unfold bAt
  rw [List.take_succ_eq_append_getElem h, List.foldl_append, List.getD_eq_getElem?_getD, List.getElem?_eq_getElem h]
  rfl
def cKeeps : Ctr := cdet [.sl I, .sl tMove] (fun _ _ => True) (fun _ _ => [⟨.bool, true⟩])
theorem okKeeps : PlainOk Try.prog glK 7 cKeeps := by
  refine plain_of (CxOk.mk' Et_ok rfl mixed (gl := glK) (GOk.cons okFact Try.func20 rfl rfl (GOk.cons okSum Try.func22 rfl rfl GOk.nil)) (GoOk.cons okNew Try.func21 rfl rfl (GoOk.cons okDo Try.func23 rfl rfl (GoOk.cons okWhole Try.func24 rfl rfl GoOk.nil))) noIt) Try.func7 (c := Try.f7.body.getD .skip) (rvs := [(.tmp 4, .bool)]) (by kernel_rfl) (by kernel_rfl) (by kernel_rfl) ?_
  intro ds k ⟨hp, hk⟩ hwf
  obtain ⟨mo, mv, rfl, -, -⟩ := dest2 hp
  have hk : k [⟨.bool, true⟩] := hk
  have hl : ((mv.length : Nat) : Int) ≤ 4611686018427387904 ∨ True := .inr trivial
  refine ⟨anKeeps mo mv, ?_⟩
  rw [vcKeeps]
  refine ⟨trivial, fun h => absurd h (by decide), fun _ => ⟨fun he => ⟨fun _ => hk, fun _ => ?_⟩, fun he => ⟨fun _ => hk, fun h => absurd h (by simp [he])⟩⟩⟩
  obtain ⟨n1, n5, nv⟩ := newE_zero he
  have hT := sumL_T he
  refine ⟨⟨by omega, fun v hv => by have := nv v hv; omega⟩, ⟨0, ⟨⟨Nat.zero_le _, Nat.zero_le _⟩, he⟩, ⟨rfl, rfl, trivial, rfl, rfl, trivial⟩, ⟨⟨trivial, trivial, trivial, trivial, trivial, rfl, trivial⟩, ⟨rfl, rfl⟩, rfl, ⟨rfl, rfl⟩, rfl, rfl, trivial⟩, trivial⟩, fun x hx => ⟨fun h1 => ⟨fun h2 => ?_, fun _ => hk⟩, fun _ => hk⟩⟩
  have h1 : (x : Int) < (mv.length : Int) := of_decide_eq_true h1
  have h2 : (x : Int) < (100 : Int) := of_decide_eq_true h2
  have hs := bAt_succ mo mv (i := x) (by omega)
  have g := Gd.at he mv x
  have g' := Gd.at he mv (x + 1)
  rw [← hs] at g'
  have hw := g'.whole
  refine ⟨by omega, h1, g.bks (by omega), ⟨g'.bks (by omega), congrArg Int.ofNat g'.mo.symm⟩, fun h => ?_, fun _ => ⟨inK_i64.2 (by omega), x + 1, ⟨⟨by omega, by omega⟩, he⟩, by omega, ⟨rfl, rfl, trivial, rfl, rfl, trivial⟩, ⟨⟨trivial, trivial, trivial, trivial, trivial, congrArg Bk.bg hs, trivial⟩, ⟨rfl, congrArg Bk.mo hs⟩, congrArg Bk.wa hs, ⟨rfl, congrArg Bk.no hs⟩, congrArg Bk.he hs, congrArg Bk.ca hs, trivial⟩, trivial⟩⟩
  have e := decide_eq_true hw
  have h' : (!decide (wholeF (stepB (bAt mo mv x) (mv.getD x (0, 0, 0, 0, ()))) = sumL mo)) = true := h
  rw [e] at h'
  exact absurd h' (by decide)
end Go.Proofs.Ytjgdpblaghhfhaa.N

/- Banks: the conditions of the laws SnapNotes and SnapEnds. -/
namespace Go.Proofs.Ytjgdpblaghhfhaa.N
open Go.Vc
def wasF (b : Bk) : Int := if allF b = true then b.no.getD 0 0 else -1
def rowC (b : Bk) (p q : Nat) : Int := sumTo q fun j => at2 b.ca p j
def cutS (b : Bk) (p : Nat) : Int := sumTo p fun i => b.no.getD i 0 + rowC b i b.mo.length
def bobN (b : Bk) : List Ob := bob b ++ [.row 3 I b.no, .trow 35 oR b.ca]
def anNotes (mo : List Int) (mv : List Mv) : Ann :=
  [joinAll,
   loopAt 10 Nat [] (fun st i => { St.at (St.only st [0, 1, 8]) [(6, .ps 0), (9, .d I (wasF (bAt mo mv i))), (10, .d I (i : Int))] with ob := bob (bAt mo mv i) }) (fun _ i => (i ≤ mv.length ∧ i ≤ 100) ∧ newE mo = 0) (fun i => 100 - i),
   loopAt 19 Nat [] (fun st p => { St.at (St.only st [0, 1, 8, 9, 10]) [(6, .ps 0), (11, .os 6), (12, .os 7), (14, .d I (cutS (bAt mo mv ((st.i 10).toNat + 1)) p)), (15, .d I (p : Int))] with ob := bobN (bAt mo mv ((st.i 10).toNat + 1)) }) (fun _ p => p ≤ mo.length ∧ True) (fun p => mo.length - p),
   loopAt 25 Nat [] (fun st q => { St.at (St.only st [0, 1, 8, 9, 10, 15]) [(6, .ps 0), (11, .os 6), (12, .os 7), (14, .d I (cutS (bAt mo mv ((st.i 10).toNat + 1)) (st.i 15).toNat + (bAt mo mv ((st.i 10).toNat + 1)).no.getD (st.i 15).toNat 0 + rowC (bAt mo mv ((st.i 10).toNat + 1)) (st.i 15).toNat q)), (16, .d I (q : Int))] with ob := bobN (bAt mo mv ((st.i 10).toNat + 1)) }) (fun _ q => q ≤ mo.length ∧ True) (fun q => mo.length - q)]
/-- how far all that is on its way has come: r rounds, in the next one the ways from those below p, and from p to those below q -/
structure Pr (n : Nat) (b : Bk) (T : Int) (r p q : Nat) : Prop where
  g : Gd n b T
  nt : ∃ c, c < n ∧ 0 ≤ b.no.getD c 0 ∧ ∀ j, j < n → 1 ≤ r ∨ c < p ∨ (p = c ∧ j < q) → 0 ≤ b.no.getD j 0
  em : ∀ i j, i < n → j < n → 2 ≤ r ∨ (r = 1 ∧ (i < p ∨ i = p ∧ j < q)) → at3 b.wa i j = []
def anEnds (mo : List Int) (mv : List Mv) : Ann :=
  [joinAll,
   loopAt 8 Nat [] (fun st i => { St.at (St.only st [0, 1]) [(6, .ps 0), (8, .d I (i : Int))] with ob := bob (bAt mo mv i) }) (fun _ i => (i ≤ mv.length ∧ i ≤ 40) ∧ newE mo = 0) (fun i => 40 - i),
   loopAt 14 (Bk × Nat) [] (fun st x => { St.at (St.only st [0, 9]) [(6, .ps 0), (10, .d I (x.2 : Int))] with ob := bob x.1 }) (fun _ x => x.2 ≤ 5 ∧ Pr mo.length x.1 (sumL mo) x.2 0 0) (fun x => 5 - x.2),
   loopAt 17 (Bk × Nat) [] (fun st x => { St.at (St.only st [0, 9, 10]) [(6, .ps 0), (11, .d I (x.2 : Int))] with ob := bob x.1 }) (fun st x => x.2 ≤ mo.length ∧ Pr mo.length x.1 (sumL mo) (st.i 10).toNat x.2 0) (fun x => mo.length - x.2),
   loopAt 20 (Bk × Nat) [] (fun st x => { St.at (St.only st [0, 9, 10, 11]) [(6, .ps 0), (12, .d I (x.2 : Int))] with ob := bob x.1 }) (fun st x => x.2 ≤ mo.length ∧ Pr mo.length x.1 (sumL mo) (st.i 10).toNat (st.i 11).toNat x.2) (fun x => mo.length - x.2),
   loopAt 23 (Bk × Nat) [] (fun st x => { St.at (St.only st [0, 9, 10, 11, 12]) [(6, .ps 0), (13, .d I (x.2 : Int))] with ob := bob x.1 }) (fun st x => x.2 + (at3 x.1.wa (st.i 11).toNat (st.i 12).toNat).length ≤ 9 ∧ Pr mo.length x.1 (sumL mo) (st.i 10).toNat (st.i 11).toNat (st.i 12).toNat) (fun x => 20 - x.2)]
end Go.Proofs.Ytjgdpblaghhfhaa.N
