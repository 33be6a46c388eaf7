/- Traces: the small trace that the laws try first. -/
import Derived.Test.YtgbpjjinhjikeaaOk3
import Derived.Test.YtgbpjjinhjikeaaV3
namespace Go.Proofs.Ytgbpjjinhjikeaa
open Go.Vc

theorem okTalk : PlainOk Try.prog 24 cTalk := by
  refine plain_of (CxOk.mk' Et_ok rfl mixed GOk.nil) Try.func24 (c := Try.f24.body.getD .skip) (rvs := [(.cell 0 24, tTr)]) (by kernel_rfl) (by kernel_rfl) (by kernel_rfl) ?_
  intro ds k ⟨hp, hk⟩ hwf
  obtain ⟨rfl, -⟩ := dest0 hp
  refine ⟨[], ?_⟩
  rw [vcTalk]
  exact hk

theorem ints_vc (a b : List Int) (k : List Dat → Prop) (hl : a.length ≤ maxLen) (hk : k [⟨.bool, a == b⟩]) : vcF ⟨Et, []⟩ (anInts a b) (Try.f25.body.getD .skip) Try.f25.ntmps [(.tmp 4, .bool)] [⟨.sl I, a⟩, ⟨.sl I, b⟩] k := by
  rw [vcInts]
  have hml : maxLen ≤ 9223372036854775807 := by decide
  simp only [decide_eq_true_eq, decide_eq_false_iff_not, and_true, true_and, Bool.not_eq_true', Bool.not_eq_false', Int.toNat_natCast, inK_i64]
  have ret : ∀ x : Bool, (a == b) = x → k [⟨.bool, x⟩] := by rintro _ rfl; exact hk
  refine ⟨fun h => ret _ ?_, fun h => ⟨⟨0, ⟨by omega, rfl⟩, rfl⟩, fun x ⟨hx, ht⟩ => ⟨fun hlt => ⟨by omega, hlt, by omega, by omega, fun hne => ret _ ?_, fun he => ⟨by omega, x + 1, ⟨by omega, ?_⟩, by omega, by omega⟩⟩, fun hge => ret _ ?_⟩⟩⟩
  · simp only [beq_eq_false_iff_ne, ne_eq]; intro he; exact h (by rw [he])
  · simp only [beq_eq_false_iff_ne, ne_eq]; intro h; exact hne (by rw [h])
  · have h1 : x < a.length := by omega
    have h2 : x < b.length := by omega
    rw [List.take_add_one, List.take_add_one, ht]
    rw [List.getD_eq_getElem?_getD, List.getD_eq_getElem?_getD, List.getElem?_eq_getElem h1, List.getElem?_eq_getElem h2] at he
    rw [List.getElem?_eq_getElem h1, List.getElem?_eq_getElem h2]
    simp only [Option.getD_some] at he
    rw [he]
  · have h1 : x = a.length := by omega
    rw [h1, List.take_length, List.take_of_length_le (by omega)] at ht
    simp [ht]

theorem okInts : PlainOk Try.prog 25 cInts := by
  refine plain_of (CxOk.mk' Et_ok rfl mixed GOk.nil) Try.func25 (c := Try.f25.body.getD .skip) (rvs := [(.tmp 4, .bool)]) (by kernel_rfl) (by kernel_rfl) (by kernel_rfl) ?_
  intro ds k ⟨hp, hk⟩ hwf
  obtain ⟨a, b, rfl, -⟩ := dest2 hp
  exact ⟨anInts a b, ints_vc a b k (wf2 hwf).1.1 hk⟩

theorem okFact : PlainOk Try.prog 10 cFact := by
  refine plain_of (CxOk.mk' Et_ok rfl mixed (GOk.cons okTalk Try.func24 (by kernel_rfl) (by kernel_rfl) (GOk.cons okBefore Try.func11 (by kernel_rfl) (by kernel_rfl) (GOk.cons okInts Try.func25 (by kernel_rfl) (by kernel_rfl) GOk.nil)))) Try.func10 (c := Try.f10.body.getD .skip) (rvs := [(.tmp 0, .bool)]) (by kernel_rfl) (by kernel_rfl) (by kernel_rfl) ?_
  intro ds k ⟨hp, hk⟩ hwf
  obtain ⟨rfl, -⟩ := dest0 hp
  have hk : k [⟨.bool, true⟩] := hk
  refine ⟨[], ?_⟩
  rw [vcFact]
  exact ⟨trivial, trivial, fun _ => ⟨trivial, hk⟩, fun h => absurd h (by decide)⟩
end Go.Proofs.Ytgbpjjinhjikeaa
