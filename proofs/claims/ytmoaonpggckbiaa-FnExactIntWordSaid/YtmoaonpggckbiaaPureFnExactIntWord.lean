/- For every whole number the program's IntWord returns what the reference's returns. No conditions. -/
import Derived.Test.YtmoaonpggckbiaaPFnExactIntWordx1
namespace Go.Proofs.Ytmoaonpggckbiaa.Pure
open Go.RowKit Go.Proofs.Ytmoaonpggckbiaa.PFnExactIntWord Go.Proofs.YtmoaonpggckbiaaW.PrintWords Go.Proofs.YtmoaonpggckbiaaW.PrintLast

/-- YOURS: ∀ (a0 : Int), (Lit.int .i64 a0).wf = true → laws_FnExactIntWord.f a0 = some true
What it reaches (each with k first where it has rounds; `.mono`: more rounds tell the same; `.l0`, ..: its loops, with `.mono_l`): spec_l1In.f, spec_WordOk.f, spec_IntWord.f, impl_within.f, impl_WordOk.f, impl_IntWord.f, laws_FnExactIntWord.f -/
theorem FnExactIntWord : laws_FnExactIntWord.Pure := by
  intro a0 h
  simp only [laws_FnExactIntWord.f, spec_IntWord.f, impl_IntWord.f, spec_WordOk.f, impl_WordOk.f, spec_l1In.f, impl_within.f]
  by_cases c : a0 ≥ -1073741824 <;> by_cases d : a0 ≤ 1073741823 <;> simp [c, d]

end Go.Proofs.Ytmoaonpggckbiaa.Pure
