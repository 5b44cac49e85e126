/- The helpers of the law FnExactUnused: sizes, copies, comparisons, marks. Each under the conditions that it names. -/
import Derived.Test.YthmhgnnaihkjaaaDoorGFnExactUnused
import Derived.Test.YthmhgnnaihkjaaaDoorRscZp
namespace Go.Proofs.YthmhgnnaihkjaaaDoor.GFnExactUnused
open Go Go.Rsc Go.Proofs.YthmhgnnaihkjaaaDoor
set_option maxRecDepth 100000
set_option linter.unusedVariables false
set_option linter.unusedSimpArgs false
theorem size_mem {l : List PV} {x : PV} (h : x ∈ l) : SizeOf.sizeOf x < SizeOf.sizeOf (PV.list l) := by
  have := List.sizeOf_lt_of_mem h
  simp; omega
@[simp] theorem cmpS_ne (s : ByteArray) : cmpS BinOp.neq s s = false := by simp [cmpS]
abbrev Rn (f : FuncId) (a r : List PV) : Prop := Is Tryd.prog sg f a r
end Go.Proofs.YthmhgnnaihkjaaaDoor.GFnExactUnused
