/- What is known of the arguments of the law FnExactGetNum, out of their reading as data. No conditions. -/
import Derived.Test.YtmoaonpggckbiaaPFnExactGetNumx2
import Derived.Test.YtmoaonpggckbiaaOpen
namespace Go.Proofs.Ytmoaonpggckbiaa.WfFnExactGetNum
open Go.RowKit Go.Proofs.Ytmoaonpggckbiaa.PFnExactGetNum Go.Proofs.Ytmoaonpggckbiaa.Open Go.Proofs.YtmoaonpggckbiaaW.PrintWords
set_option linter.unusedVariables false
set_option linter.unusedSimpArgs false

/-- What is to be shown of the law, without Go and memory. -/
def Pure : Prop := ∀ (x0 : (List Int)) (x1 : Int), (x0.length ≤ maxLen ∧ ∀ y ∈ x0, (Lit.int .u8 y).wf = true) → (Lit.int .i64 x1).wf = true → ∃ k, laws_FnExactGetNum.f k x0 x1 = some true
end Go.Proofs.Ytmoaonpggckbiaa.WfFnExactGetNum
