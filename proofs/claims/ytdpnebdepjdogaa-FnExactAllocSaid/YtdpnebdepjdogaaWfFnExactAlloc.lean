/- What is known of the arguments of the law FnExactAlloc, out of their reading as data. No conditions. -/
import Derived.Test.YtdpnebdepjdogaaQFnExactAllocx11
import Derived.Test.YtdpnebdepjdogaaVFnExactAllocOpen
namespace Go.Proofs.Ytdpnebdepjdogaa.WfFnExactAlloc
open Go.RowKit Go.Proofs.Ytdpnebdepjdogaa.QFnExactAlloc Go.Proofs.Ytdpnebdepjdogaa.Open Go.Proofs.YtdpnebdepjdogaaW.PrintWords
set_option maxRecDepth 100000
set_option linter.unusedVariables false
set_option linter.unusedSimpArgs false

def Wf24 (x : S24) : Prop := (x.f0.length ≤ maxLen ∧ ∀ y ∈ x.f0, (Lit.int .i64 y).wf = true) ∧ ((Lit.int .i64 x.f1).wf = true ∧ ((Lit.int .i64 x.f2).wf = true ∧ ((Lit.int .i64 x.f3).wf = true)))
theorem opens24 {H : Type} {enc : TypeId × Value → H} {W : World} (n : Nat) : Opens enc Try.prog W n 24 k24 Wf24 :=
  Opens.le (n := n + 1) (opens_iso (fun x : S24 => (x.f0, x.f1, x.f2, x.f3)) (fun a => (⟨a.1, a.2.1, a.2.2.1, a.2.2.2⟩ : S24)) (fun _ => rfl) (fun _ h => h) (opens_struct (sz := 4) Try.underlying24 (by kernel_rfl) (opens_cons (off := 0) (s1 := 1) (sz := 3) rfl (by kernel_rfl) (opens_slice Try.underlying22 (by kernel_rfl) (opens_int Try.underlying3)) (opens_cons (off := 1) (s1 := 1) (sz := 2) rfl (by kernel_rfl) (opens_int Try.underlying3) (opens_cons (off := 2) (s1 := 1) (sz := 1) rfl (by kernel_rfl) (opens_int Try.underlying3) (opens_last (off := 3) (sz := 1) rfl (by kernel_rfl) (opens_int Try.underlying3))))))) (by omega)
/-- What is to be shown of the law, without Go and memory. -/
def Pure : Prop := ∀ (x0 : S24) (x1 : Bool) (x2 : Int) (x3 : (List Int)), (Wf24 x0) → (Lit.int .i64 x2).wf = true → (x3.length ≤ maxLen ∧ ∀ y ∈ x3, (Lit.int .i64 y).wf = true) → ∃ k, laws_FnExactAlloc.f k x0.f0 x0.f1 x0.f2 x0.f3 x1 x2 x3 = some true
end Go.Proofs.Ytdpnebdepjdogaa.WfFnExactAlloc
