/- What is known of the arguments of the law FnWords, out of their reading as data. No conditions. -/
import Derived.Test.YtmoaonpggckbiaaQFnWordsx2
import Derived.Test.YtmoaonpggckbiaaOpen
namespace Go.Proofs.Ytmoaonpggckbiaa.WfFnWords
open Go.RowKit Go.Proofs.Ytmoaonpggckbiaa.QFnWords Go.Proofs.Ytmoaonpggckbiaa.Open Go.Proofs.YtmoaonpggckbiaaW.PrintWords
set_option linter.unusedVariables false
set_option linter.unusedSimpArgs false

/-- What is to be shown of the law, without Go and memory. -/
def Pure : Prop := ∀ (x0 : (List Int)), (x0.length ≤ maxLen ∧ ∀ y ∈ x0, (Lit.int .u8 y).wf = true) → ∃ k, laws_FnWords.f k x0 = some true
end Go.Proofs.Ytmoaonpggckbiaa.WfFnWords
