/- The handle of the type 'error', as the cards list it, lies in its variable. -/
import Derived.Test.YtpidkjpjjidghaaDoorTold
import Derived.Test.YtpidkjpjjidghaaDoorVcPA
namespace Go.Proofs.YtpidkjpjjidghaaDoor
open Go.Vc
theorem glOk {W : World} (h : laidMetH Tryd.prog Rows.editOneRow.laid W) : GlOk glE W fun b => b < W.heap.size :=
  gl_of_handle (n := "errors.errorType") (u := 71) (ty := 26) (d := Rows.laid_errors_errorType) h (.head _) rfl rfl (by kernel_rfl) (by kernel_rfl) (by kernel_rfl) (by kernel_rfl) rfl
end Go.Proofs.YtpidkjpjjidghaaDoor
