/- For every whole number the program's WordInt returns what the reference's returns. No conditions. -/
import Derived.Test.YtmoaonpggckbiaaPFnExactWordIntx1
namespace Go.Proofs.Ytmoaonpggckbiaa.Pure
open Go.RowKit Go.Proofs.Ytmoaonpggckbiaa.PFnExactWordInt Go.Proofs.YtmoaonpggckbiaaW.PrintWords Go.Proofs.YtmoaonpggckbiaaW.PrintLast

/-- YOURS: ∀ (a0 : Int), (Lit.int .i64 a0).wf = true → laws_FnExactWordInt.f a0 = some true
What it reaches (each with k first where it has rounds; `.mono`: more rounds tell the same; `.l0`, ..: its loops, with `.mono_l`): spec_WordInt.f, impl_WordInt.f, laws_FnExactWordInt.f -/
theorem FnExactWordInt : laws_FnExactWordInt.Pure := by
  intro a0 h
  simp [laws_FnExactWordInt.f, spec_WordInt.f, impl_WordInt.f]

end Go.Proofs.Ytmoaonpggckbiaa.Pure
