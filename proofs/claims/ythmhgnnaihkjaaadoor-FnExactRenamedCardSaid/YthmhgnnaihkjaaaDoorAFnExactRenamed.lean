/- The helpers of the law FnExactRenamed: sizes, copies, comparisons, marks. Each under the conditions that it names. -/
import Derived.Test.YthmhgnnaihkjaaaDoorGFnExactRenamed
import Derived.Test.YthmhgnnaihkjaaaDoorRscZp
namespace Go.Proofs.YthmhgnnaihkjaaaDoor.GFnExactRenamed
open Go Go.Rsc Go.Proofs.YthmhgnnaihkjaaaDoor
set_option maxRecDepth 100000
set_option linter.unusedVariables false
set_option linter.unusedSimpArgs false
theorem size_mem {l : List PV} {x : PV} (h : x ∈ l) : SizeOf.sizeOf x < SizeOf.sizeOf (PV.list l) := by
  have := List.sizeOf_lt_of_mem h
  simp; omega
@[simp] theorem cmpS_ne (s : ByteArray) : cmpS BinOp.neq s s = false := by simp [cmpS]
abbrev Rn (f : FuncId) (a r : List PV) : Prop := Is Tryd.prog sg f a r
theorem to_15 {p : PV} (h : WfT Tryd.prog 33 p) (hw : p.wt ≤ 1048576) : Rn 15 [p] [p] := by
  obtain ⟨l, rfl, hl, he⟩ := wf_slice (e := 3) (by kernel_rfl) h
  simp at hw
  refine Is.of e15 ?_
  have hloop := loop_run (body := fun n => L15_0 (ev Tryd.prog sg n) n) (e := .x 0) (res := [.list l]) (fun i => [.int i, .list l, .list (l.take i ++ List.replicate (l.length - i) (PV.int (0 : Int)))]) l.length (fun i hi => ?_) (Evt.all fun n => ?_) (by simp)
  · refine hloop.mp fun n h => ?_
    simp at h
    simp (disch := omega) [F15, leT, geT, h]
  · refine Evt.all fun n => ?_
    simp (disch := omega) [L15_0, ltT, geT, wrap64, fill_set, hi]
  · simp (disch := omega) [L15_0, ltF]
theorem eq_18 {p : PV} (h : WfT Tryd.prog 33 p) : Rn 18 [p, p] [.bool true] := by
  obtain ⟨l, rfl, hl, he⟩ := wf_slice (e := 3) (by kernel_rfl) h
  have hm : maxLen = 9223372036854775807 := rfl
  have hloop := loop_run (body := fun n => L18_0 (ev Tryd.prog sg n) n) (e := .x 0) (res := []) (fun i => [.int i, .list l, .list l]) l.length (fun i hi => ?_) (Evt.all fun n => ?_) (by simp)
  · refine Is.of e18 (hloop.mp fun n h => ?_)
    simp at h
    simp (disch := omega) [F18, neF, h]
  · refine Evt.all fun n => ?_
    simp (disch := omega) [L18_0, ltT, geT, wrap64, neF]
  · simp (disch := omega) [L18_0, ltF]
end Go.Proofs.YthmhgnnaihkjaaaDoor.GFnExactRenamed
