/- What the functions of this seat have to satisfy, by program: each verification condition in plain words. -/
import Derived.Test.YtpidkjpjjidghaaDoorErr
namespace Go.Proofs.YtpidkjpjjidghaaDoor
open Go.Vc
set_option linter.unusedVariables false
theorem vcError (n e : Int) (k : List Dat → Prop) : vcF ⟨Er, [(18, cTold)], glE, [], []⟩ [] (Tryd.f9.body.getD .skip) Tryd.f9.ntmps [(.tmp 4, .bool)] [⟨tErr, n⟩, ⟨I, e⟩] k = (
  IntKind.i64.wrap n = n ∧ k [Dat.mk Ty.bool (decide (n = e))]) := by kernel_rfl
end Go.Proofs.YtpidkjpjjidghaaDoor
