/- Is an error the one with a number? -/
import Derived.Test.YtpidkjpjjidghaaDoorVE
import Derived.Test.YtpidkjpjjidghaaDoorOk
namespace Go.Proofs.YtpidkjpjjidghaaDoor
open Go.Vc
theorem PlainOk.sub {P : Program} {gl gl' : List (Nat × Dat)} {f : FuncId} {c : Ctr} (hs : ∀ x ∈ gl, x ∈ gl') (h : PlainOk P gl f c) : PlainOk P gl' f c :=
  fun ds k hk w R0 vals hR0 hG hD => h ds k hk w R0 vals hR0 (fun g d hg => hG g d (hs _ hg)) hD
theorem okError : PlainOk Tryd.prog glE 9 cError := by
  refine plain_of (CxOk.mk' Er_ok rfl (by kernel_rfl) (gl := glE) (GOk.cons okTold Tryd.func18 (by kernel_rfl) (by kernel_rfl) GOk.nil) GoOk.nil noIt) Tryd.func9 (c := Tryd.f9.body.getD .skip) (rvs := [(.tmp 4, .bool)]) (by kernel_rfl) (by kernel_rfl) (by kernel_rfl) ?_
  intro ds k ⟨hp, hk⟩ hwf
  obtain ⟨n, e, rfl, hin, -⟩ := dest2 hp
  have hk : k [⟨.bool, decide (n = e)⟩] := hk
  refine ⟨[], ?_⟩
  rw [vcError]
  exact ⟨hin, hk⟩
end Go.Proofs.YtpidkjpjjidghaaDoor
