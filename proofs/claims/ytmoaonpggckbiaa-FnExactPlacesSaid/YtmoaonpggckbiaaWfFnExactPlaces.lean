/- What is known of the arguments of the law FnExactPlaces, out of their reading as data. No conditions. -/
import Derived.Test.YtmoaonpggckbiaaQFnExactPlacesx3
import Derived.Test.YtmoaonpggckbiaaOpen
namespace Go.Proofs.Ytmoaonpggckbiaa.WfFnExactPlaces
open Go.RowKit Go.Proofs.Ytmoaonpggckbiaa.QFnExactPlaces Go.Proofs.Ytmoaonpggckbiaa.Open Go.Proofs.YtmoaonpggckbiaaW.PrintWords
set_option linter.unusedVariables false
set_option linter.unusedSimpArgs false

def Wf25 (x : S25) : Prop := (Lit.int .i64 x.f0).wf = true ∧ ((Lit.int .i64 x.f1).wf = true ∧ ((Lit.int .i64 x.f2).wf = true))
theorem opens25 {H : Type} {enc : TypeId × Value → H} {W : World} (n : Nat) : Opens enc Try.prog W n 25 k25 Wf25 :=
  Opens.le (n := n + 1) (opens_iso (fun x : S25 => (x.f0, x.f1, x.f2)) (fun a => (⟨a.1, a.2.1, a.2.2⟩ : S25)) (fun _ => rfl) (fun _ h => h) (opens_struct (sz := 3) Try.underlying25 (by kernel_rfl) (opens_cons (off := 0) (s1 := 1) (sz := 2) rfl (by kernel_rfl) (opens_int Try.underlying3) (opens_cons (off := 1) (s1 := 1) (sz := 1) rfl (by kernel_rfl) (opens_int Try.underlying3) (opens_last (off := 2) (sz := 1) rfl (by kernel_rfl) (opens_int Try.underlying3)))))) (by omega)
def Wf71 (x : S71) : Prop := (Lit.int .i64 x.f0).wf = true ∧ ((x.f1.length ≤ maxLen ∧ ∀ y ∈ x.f1, Wf25 y))
theorem opens71 {H : Type} {enc : TypeId × Value → H} {W : World} (n : Nat) : Opens enc Try.prog W n 71 k71 Wf71 :=
  Opens.le (n := n + 1) (opens_iso (fun x : S71 => (x.f0, x.f1)) (fun a => (⟨a.1, a.2⟩ : S71)) (fun _ => rfl) (fun _ h => h) (opens_struct (sz := 2) Try.underlying71 (by kernel_rfl) (opens_cons (off := 0) (s1 := 1) (sz := 1) rfl (by kernel_rfl) (opens_int Try.underlying3) (opens_last (off := 1) (sz := 1) rfl (by kernel_rfl) (opens_slice Try.underlying69 (by kernel_rfl) (opens25 n)))))) (by omega)
/-- What is to be shown of the law, without Go and memory. -/
def Pure : Prop := ∀ (x0 : (List S71)), (x0.length ≤ maxLen ∧ ∀ y ∈ x0, Wf71 y) → ∃ k, laws_FnExactPlaces.f k x0 = some true
end Go.Proofs.Ytmoaonpggckbiaa.WfFnExactPlaces
