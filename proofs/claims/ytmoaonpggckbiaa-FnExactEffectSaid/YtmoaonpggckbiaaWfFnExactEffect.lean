/- What is known of the arguments of the law FnExactEffect, out of their reading as data. No conditions. -/
import Derived.Test.YtmoaonpggckbiaaQFnExactEffectx2
import Derived.Test.YtmoaonpggckbiaaOpen
namespace Go.Proofs.Ytmoaonpggckbiaa.WfFnExactEffect
open Go.RowKit Go.Proofs.Ytmoaonpggckbiaa.QFnExactEffect Go.Proofs.Ytmoaonpggckbiaa.Open Go.Proofs.YtmoaonpggckbiaaW.PrintWords
set_option linter.unusedVariables false
set_option linter.unusedSimpArgs false

def Wf25 (x : S25) : Prop := (Lit.int .i64 x.f0).wf = true ∧ ((Lit.int .i64 x.f1).wf = true ∧ ((Lit.int .i64 x.f2).wf = true))
theorem opens25 {H : Type} {enc : TypeId × Value → H} {W : World} (n : Nat) : Opens enc Try.prog W n 25 k25 Wf25 :=
  Opens.le (n := n + 1) (opens_iso (fun x : S25 => (x.f0, x.f1, x.f2)) (fun a => (⟨a.1, a.2.1, a.2.2⟩ : S25)) (fun _ => rfl) (fun _ h => h) (opens_struct (sz := 3) Try.underlying25 (by kernel_rfl) (opens_cons (off := 0) (s1 := 1) (sz := 2) rfl (by kernel_rfl) (opens_int Try.underlying3) (opens_cons (off := 1) (s1 := 1) (sz := 1) rfl (by kernel_rfl) (opens_int Try.underlying3) (opens_last (off := 2) (sz := 1) rfl (by kernel_rfl) (opens_int Try.underlying3)))))) (by omega)
/-- What is to be shown of the law, without Go and memory. -/
def Pure : Prop := ∀ (x0 : S25), (Wf25 x0) → ∃ k, laws_FnExactEffect.f k x0.f0 x0.f1 x0.f2 = some true
end Go.Proofs.Ytmoaonpggckbiaa.WfFnExactEffect
