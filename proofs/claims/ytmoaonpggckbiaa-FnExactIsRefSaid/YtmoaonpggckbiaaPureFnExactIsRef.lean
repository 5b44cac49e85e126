/- For every whole number the program's IsRef returns what the reference's returns. No conditions. -/
import Derived.Test.YtmoaonpggckbiaaPFnExactIsRefx1
namespace Go.Proofs.Ytmoaonpggckbiaa.Pure
open Go.RowKit Go.Proofs.Ytmoaonpggckbiaa.PFnExactIsRef Go.Proofs.YtmoaonpggckbiaaW.PrintWords Go.Proofs.YtmoaonpggckbiaaW.PrintLast

/-- YOURS: ∀ (a0 : Int), (Lit.int .i64 a0).wf = true → laws_FnExactIsRef.f a0 = some true
What it reaches (each with k first where it has rounds; `.mono`: more rounds tell the same; `.l0`, ..: its loops, with `.mono_l`): spec_IsRef.f, impl_IsRef.f, laws_FnExactIsRef.f -/
theorem FnExactIsRef : laws_FnExactIsRef.Pure := by
  intro a0 h
  simp [laws_FnExactIsRef.f, spec_IsRef.f, impl_IsRef.f]

end Go.Proofs.Ytmoaonpggckbiaa.Pure
