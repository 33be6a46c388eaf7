/- The edits' functions: what each answers. -/
import Derived.Test.YtpidkjpjjidghaaDoorRows
import Derived.Test.YtpidkjpjjidghaaDoorVcQ
namespace Go.Proofs.YtpidkjpjjidghaaDoor
open Go.Vc
abbrev I : Ty := .int .i64
abbrev tEdit : Ty := .pr I (.pr I (.pr I .un))
abbrev tErr : Ty := .err 48
def Ee : Env := { tys := [(3, .int .i64), (4, .bool), (5, .int .u8), (9, .str), (23, .pr I (.pr I (.pr I .un))), (26, .err 48), (49, .sl (.int .u8))], errT := 48, eqs := [], els := [(49, 5)] }
theorem Ee_ok : EnvOk Tryd.prog Ee := EnvOk.of_list (by kernel_rfl) (by kernel_rfl) (by kernel_rfl)
def inB (n lo hi : Int) : Bool := decide (lo ≤ n) && decide (n ≤ hi)
def cWithin : Ctr := cdet [I, I, I] (fun _ _ _ => True) (fun a b c => [⟨.bool, inB a b c⟩])
def editOk (e : Int × Int × Int × Unit) : Bool := inB e.1 0 60 && inB e.2.1 (-2) 255 && inB e.2.2.1 0 4
def chk (e : Int × Int × Int × Unit) : Int := if editOk e then 0 else 1
def cCheck : Ctr := cdet [tEdit] (fun _ => True) (fun e => [⟨tErr, chk e⟩])
/-- the place and byte of an edit turned over another one -/
def turned (e f : Int × Int × Int × Unit) : Int × Int × Int × Unit :=
  if e.2.1 = -2 ∨ f.2.1 = -2 then e
  else if 0 ≤ f.2.1 then (if f.1 < e.1 ∨ f.1 = e.1 ∧ (e.2.1 < 0 ∨ f.2.2.1 < e.2.2.1) then (e.1 + 1, e.2) else e)
  else if f.1 < e.1 then (e.1 - 1, e.2)
  else if f.1 = e.1 ∧ e.2.1 < 0 then (e.1, -2, e.2.2)
  else e
def turnErr (e f : Int × Int × Int × Unit) : Int :=
  if editOk e = false then 1 else if editOk f = false then 1 else if e.2.2.1 = f.2.2.1 then 6
  else if 60 < (turned e f).1 then 4 else 0
def turn (e f : Int × Int × Int × Unit) : Int × Int × Int × Unit := if turnErr e f = 0 then turned e f else (0, 0, 0, ())
def cTurn : Ctr := cdet [tEdit, tEdit] (fun _ _ => True) (fun e f => [⟨tEdit, turn e f⟩, ⟨tErr, turnErr e f⟩])
def appErr (s : List UInt8) (e : Int × Int × Int × Unit) : Int :=
  if 60 < s.length then 4 else if editOk e = false then 1 else if e.2.1 = -2 then 0
  else if e.2.1 = -1 then (if (s.length : Int) ≤ e.1 then 5 else 0)
  else if (s.length : Int) < e.1 then 5 else if s.length = 60 then 4 else 0
def app (s : List UInt8) (e : Int × Int × Int × Unit) : List UInt8 :=
  if appErr s e = 0 then (if e.2.1 = -2 then s else if e.2.1 = -1 then s.take e.1.toNat ++ s.drop (e.1 + 1).toNat else s.take e.1.toNat ++ bstr [e.2.1] ++ s.drop e.1.toNat) else []
def cApply : Ctr := cdet [.str, tEdit] (fun _ _ => True) (fun s e => [⟨.str, app s e⟩, ⟨tErr, appErr s e⟩])
def cFact : Ctr := cdet [] True [⟨.bool, true⟩]
def cTrue2 (a b : Ty) : Ctr := cdet [a, b] (fun _ _ => True) (fun _ _ => [⟨.bool, true⟩])
end Go.Proofs.YtpidkjpjjidghaaDoor
