/- For every whole number the program's WordRef returns what the reference's returns. No conditions. -/
import Derived.Test.YtmoaonpggckbiaaPFnExactWordRefx1
namespace Go.Proofs.Ytmoaonpggckbiaa.Pure
open Go.RowKit Go.Proofs.Ytmoaonpggckbiaa.PFnExactWordRef Go.Proofs.YtmoaonpggckbiaaW.PrintWords Go.Proofs.YtmoaonpggckbiaaW.PrintLast

/-- YOURS: ∀ (a0 : Int), (Lit.int .i64 a0).wf = true → laws_FnExactWordRef.f a0 = some true
What it reaches (each with k first where it has rounds; `.mono`: more rounds tell the same; `.l0`, ..: its loops, with `.mono_l`): spec_WordRef.f, impl_WordRef.f, laws_FnExactWordRef.f -/
theorem FnExactWordRef : laws_FnExactWordRef.Pure := by
  intro a0 h
  simp [laws_FnExactWordRef.f, spec_WordRef.f, impl_WordRef.f]

end Go.Proofs.Ytmoaonpggckbiaa.Pure
