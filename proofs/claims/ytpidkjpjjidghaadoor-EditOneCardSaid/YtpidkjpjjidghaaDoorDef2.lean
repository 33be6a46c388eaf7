/- Edits: EditOne. -/
import Derived.Test.YtpidkjpjjidghaaDoorErr
namespace Go.Proofs.YtpidkjpjjidghaaDoor
open Go.Vc
abbrev Ed := Int × Int × Int × Unit
abbrev cOne : Ctr := cdet [.str, tEdit, tEdit] (fun _ _ _ => True) (fun _ _ _ => [⟨.bool, true⟩])
end Go.Proofs.YtpidkjpjjidghaaDoor
