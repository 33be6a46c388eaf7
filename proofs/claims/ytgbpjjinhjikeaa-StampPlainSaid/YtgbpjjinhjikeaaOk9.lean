/- Clocks that count: the functions keep their contracts. -/
import Derived.Test.YtgbpjjinhjikeaaOk
import Derived.Test.YtgbpjjinhjikeaaV9
namespace Go.Proofs.Ytgbpjjinhjikeaa
open Go.Vc

theorem okClone : PlainOk Try.prog 32 cClone := by
  refine plain_of (CxOk.mk' Ev5_ok rfl mixed GOk.nil) Try.func32 (c := Try.f32.body.getD .skip) (rvs := [(.tmp 2, .sl I)]) (by kernel_rfl) (by kernel_rfl) (by kernel_rfl) ?_
  intro ds k ⟨hp, hk⟩ hwf
  obtain ⟨l, rfl, hl, -⟩ := dest1 hp
  clear hp hwf
  revert hk hl
  revert l
  intro (l : List Int) hk hl
  have hk : k [⟨.sl I, l⟩] := hk
  have hl : l.length ≤ 1000000000 := hl
  refine ⟨[], ?_⟩
  rw [vcClone]
  intro b hb
  refine ⟨fun h => ?_, fun _ => ⟨by simpa using hl, hk⟩⟩
  have := hb h
  subst this
  exact hk
end Go.Proofs.Ytgbpjjinhjikeaa
