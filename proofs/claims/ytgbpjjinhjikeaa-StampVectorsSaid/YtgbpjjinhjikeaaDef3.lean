/- Traces: the small trace that the laws try first. -/
import Derived.Test.YtgbpjjinhjikeaaDef2
namespace Go.Proofs.Ytgbpjjinhjikeaa
open Go.Vc
def talkT : Tr := (2, [(0, -1, ()), (1, 0, ()), (0, -1, ())], ())
def cTalk : Ctr := cdet [] True [⟨tTr, talkT⟩]
def cInts : Ctr := cdet [.sl I, .sl I] (fun _ _ => True) (fun (a b : List Int) => [⟨.bool, a == b⟩])
def cFact : Ctr := cdet [] True [⟨.bool, true⟩]
def anInts (a b : List Int) : Ann := an1 Nat 4 (fun st i => St.at st [(5, .d I (i : Int))]) (fun i => i ≤ a.length ∧ a.take i = b.take i) (fun i => a.length - i)
end Go.Proofs.Ytgbpjjinhjikeaa
