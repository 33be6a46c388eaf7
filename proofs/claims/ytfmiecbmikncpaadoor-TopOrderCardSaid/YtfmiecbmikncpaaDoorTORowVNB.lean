import Derived.Test.YtfmiecbmikncpaaDoorTORowVNA
namespace Go.Vc
open Go.RowKit
theorem PlainOk.sub'[Dn]{P:Program}{gl gl':List (Nat×Dat)}{f:FuncId}{c:Ctr}(hs:∀ x∈gl,x∈gl')(h:PlainOk P gl f c):PlainOk P gl' f c :=
 fun ds k hk w R0 vals hR0 hG hD=>h ds k hk w R0 vals hR0 (fun g d hg=>hG g d (hs _ hg)) hD
theorem PlainOk.lift[Dn]{P:Program}{gl:List (Nat×Dat)}{f:FuncId}{c:Ctr}(h:PlainOk P [] f c):PlainOk P gl f c:=PlainOk.sub' (fun x hx=>by cases hx) h
end Go.Vc
