/- Is an error the one with a number? -/
import Derived.Test.YtpidkjpjjidghaaDoorTold
namespace Go.Proofs.YtpidkjpjjidghaaDoor
open Go.Vc
def cError : Ctr := cdet [tErr, I] (fun (n _ : Int) => inK .i64 n ∧ True) (fun (n e : Int) => [⟨.bool, decide (n = e)⟩])
def Er : Env := { tys := [(3, I), (4, .bool), (26, tErr), (48, I)], errT := 48, eqs := [], els := [] }
theorem Er_ok : EnvOk Tryd.prog Er := EnvOk.of_list (by kernel_rfl) (by kernel_rfl) (by kernel_rfl)
end Go.Proofs.YtpidkjpjjidghaaDoor
