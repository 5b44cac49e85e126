/- For every whole number the program's RefWord returns what the reference's returns. No conditions. -/
import Derived.Test.YtmoaonpggckbiaaPFnExactRefWordx1
namespace Go.Proofs.Ytmoaonpggckbiaa.Pure
open Go.RowKit Go.Proofs.Ytmoaonpggckbiaa.PFnExactRefWord Go.Proofs.YtmoaonpggckbiaaW.PrintWords Go.Proofs.YtmoaonpggckbiaaW.PrintLast

/-- YOURS: ∀ (a0 : Int), (Lit.int .i64 a0).wf = true → laws_FnExactRefWord.f a0 = some true
What it reaches (each with k first where it has rounds; `.mono`: more rounds tell the same; `.l0`, ..: its loops, with `.mono_l`): spec_l1In.f, spec_RefWord.f, impl_within.f, impl_RefWord.f, laws_FnExactRefWord.f -/
theorem FnExactRefWord : laws_FnExactRefWord.Pure := by
  intro a0 h
  simp only [laws_FnExactRefWord.f, spec_RefWord.f, impl_RefWord.f, spec_l1In.f, impl_within.f]
  by_cases c : a0 ≥ 0 <;> by_cases d : a0 ≤ 6000 <;> simp [c, d]

end Go.Proofs.Ytmoaonpggckbiaa.Pure
