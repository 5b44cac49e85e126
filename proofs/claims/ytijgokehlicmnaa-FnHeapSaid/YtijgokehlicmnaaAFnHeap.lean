/- The helpers of the law FnHeap: sizes, copies, comparisons, marks. Each under the conditions that it names. -/
import Derived.Test.YtijgokehlicmnaaGFnHeap
import Derived.Test.YtijgokehlicmnaaRscZp
namespace Go.Proofs.Ytijgokehlicmnaa.GFnHeap
open Go Go.Rsc Go.Proofs.Ytijgokehlicmnaa
set_option maxRecDepth 100000
set_option linter.unusedVariables false
set_option linter.unusedSimpArgs false
theorem size_mem {l : List PV} {x : PV} (h : x ∈ l) : SizeOf.sizeOf x < SizeOf.sizeOf (PV.list l) := by
  have := List.sizeOf_lt_of_mem h
  simp; omega
abbrev Rn (f : FuncId) (a r : List PV) : Prop := Is Try.prog sg f a r
end Go.Proofs.Ytijgokehlicmnaa.GFnHeap
