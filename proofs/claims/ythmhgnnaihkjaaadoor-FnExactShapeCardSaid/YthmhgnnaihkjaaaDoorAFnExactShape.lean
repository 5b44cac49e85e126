/- The helpers of the law FnExactShape: sizes, copies, comparisons, marks. Each under the conditions that it names. -/
import Derived.Test.YthmhgnnaihkjaaaDoorGFnExactShape
import Derived.Test.YthmhgnnaihkjaaaDoorRscZp
namespace Go.Proofs.YthmhgnnaihkjaaaDoor.GFnExactShape
open Go Go.Rsc Go.Proofs.YthmhgnnaihkjaaaDoor
set_option maxRecDepth 100000
set_option linter.unusedVariables false
set_option linter.unusedSimpArgs false
theorem size_mem {l : List PV} {x : PV} (h : x ∈ l) : SizeOf.sizeOf x < SizeOf.sizeOf (PV.list l) := by
  have := List.sizeOf_lt_of_mem h
  simp; omega
@[simp] theorem cmpS_ne (s : ByteArray) : cmpS BinOp.neq s s = false := by simp [cmpS]
abbrev Rn (f : FuncId) (a r : List PV) : Prop := Is Tryd.prog sg f a r
theorem sz_30 {p : PV} (h : WfT Tryd.prog 33 p) {x : Int} (hx : 0 ≤ x) (hB : x ≤ 1048576) : Rn 30 [p, .int x] [.int (szR x p.wt)] := by
  obtain ⟨l, rfl, hl, he⟩ := wf_slice (e := 3) (by kernel_rfl) h
  have hz : PV.wts l = 0 := wts_zero fun q hq => by
    have hq := he q hq
    obtain ⟨x0, rfl, xr⟩ := wf_int (k := .i64) (by kernel_rfl) hq
    have xr := wf64 xr
    simp
  have hm : maxLen = 9223372036854775807 := rfl
  refine Is.of e30 (Evt.all fun n => ?_)
  by_cases s : x - l.length < 0
  · rw [szR_lt (by simp [hz]; omega)]
    simp (disch := omega) [F30, wrap64, ltT]
  · rw [szR_ge (by simp [hz]; omega)]
    simp (disch := omega) [F30, wrap64, ltF, hz]
theorem wf35 {p : PV} (h : WfT Tryd.prog 35 p) : ∃ x0 x1 x2 x3, p = .agg [x0, PV.int x1, PV.int x2, PV.int x3] ∧ WfT Tryd.prog 33 x0 ∧ (-9223372036854775808 ≤ x1 ∧ x1 < 9223372036854775808) ∧ (-9223372036854775808 ≤ x2 ∧ x2 < 9223372036854775808) ∧ (-9223372036854775808 ≤ x3 ∧ x3 < 9223372036854775808) := by
  obtain ⟨l, rfl, hl, hf⟩ := wf_struct Tryd.underlying35 h
  obtain ⟨y0, y1, y2, y3, rfl⟩ : ∃ y0 y1 y2 y3, l = [y0, y1, y2, y3] := by
    match l, hl with
    | [a0, a1, a2, a3], _ => exact ⟨a0, a1, a2, a3, rfl⟩
  have h0 := hf 0 _ _ rfl rfl
  have h1 := hf 1 _ _ rfl rfl
  obtain ⟨x1, rfl, r1⟩ := wf_int (k := .i64) (by kernel_rfl) h1
  have h2 := hf 2 _ _ rfl rfl
  obtain ⟨x2, rfl, r2⟩ := wf_int (k := .i64) (by kernel_rfl) h2
  have h3 := hf 3 _ _ rfl rfl
  obtain ⟨x3, rfl, r3⟩ := wf_int (k := .i64) (by kernel_rfl) h3
  exact ⟨y0, x1, x2, x3, rfl, h0, wf64 r1, wf64 r2, wf64 r3⟩
theorem mk35 {x0 : PV} {x1 : Int} {x2 : Int} {x3 : Int} (h0 : WfT Tryd.prog 33 x0) (h1 : (-9223372036854775808 ≤ x1 ∧ x1 < 9223372036854775808)) (h2 : (-9223372036854775808 ≤ x2 ∧ x2 < 9223372036854775808)) (h3 : (-9223372036854775808 ≤ x3 ∧ x3 < 9223372036854775808)) : WfT Tryd.prog 35 (.agg [x0, PV.int x1, PV.int x2, PV.int x3]) := by
  refine .struct Tryd.underlying35 rfl fun i f q hf hq => ?_
  match i, hf, hq with
  | 0, hf, hq => obtain rfl := Option.some.inj hf; obtain rfl := Option.some.inj hq; exact h0
  | 1, hf, hq => obtain rfl := Option.some.inj hf; obtain rfl := Option.some.inj hq; exact .int (k := .i64) (by kernel_rfl) (wf_mk64 h1.1 h1.2)
  | 2, hf, hq => obtain rfl := Option.some.inj hf; obtain rfl := Option.some.inj hq; exact .int (k := .i64) (by kernel_rfl) (wf_mk64 h2.1 h2.2)
  | 3, hf, hq => obtain rfl := Option.some.inj hf; obtain rfl := Option.some.inj hq; exact .int (k := .i64) (by kernel_rfl) (wf_mk64 h3.1 h3.2)
  | n + 4, hf, hq => simp at hq
theorem sz_12 {p : PV} (h : WfT Tryd.prog 35 p) {x : Int} (hx : 0 ≤ x) (hB : x ≤ 1048576) : Rn 12 [p, .int x] [.int (szR x p.wt)] := by
  obtain ⟨x0, x1, x2, x3, rfl, xh0, xh1, xh2, xh3⟩ := wf35 h
  have c0 := sz_30 xh0 (x := x) (by omega) (by omega)
  by_cases s0 : szR (x) x0.wt < 0
  · have q : szR x (PV.agg [x0, PV.int x1, PV.int x2, PV.int x3]).wt = -1 := szR_lt (by have := (szR_neg (w := x0.wt) (x := x) (by omega)).1 s0; simp; omega)
    rw [q]
    exact Is.of e12 ((c0).mp fun n h => by simp [F12, h, ltT s0])
  have g0 : (x0.wt : Int) ≤ x := by have := mt (szR_neg (w := x0.wt) (x := x) (by omega)).2 s0; omega
  have d0 : szR (x) x0.wt = x - x0.wt := szR_ge g0
  rw [d0] at c0 s0
  have q : szR x (PV.agg [x0, PV.int x1, PV.int x2, PV.int x3]).wt = x - x0.wt := by rw [szR_ge (by simp <;> omega)]; simp <;> omega
  rw [q]
  exact Is.of e12 ((c0).mp fun n h => by simp [F12, h, ltF (Int.not_lt.1 s0)])
theorem to_15 {p : PV} (h : WfT Tryd.prog 33 p) (hw : p.wt ≤ 1048576) : Rn 15 [p] [p] := by
  obtain ⟨l, rfl, hl, he⟩ := wf_slice (e := 3) (by kernel_rfl) h
  simp at hw
  refine Is.of e15 ?_
  have hloop := loop_run (body := fun n => L15_0 (ev Tryd.prog sg n) n) (e := .x 0) (res := [.list l]) (fun i => [.int i, .list l, .list (l.take i ++ List.replicate (l.length - i) (PV.int (0 : Int)))]) l.length (fun i hi => ?_) (Evt.all fun n => ?_) (by simp)
  · refine hloop.mp fun n h => ?_
    simp at h
    simp (disch := omega) [F15, leT, geT, h]
  · refine Evt.all fun n => ?_
    simp (disch := omega) [L15_0, ltT, geT, wrap64, fill_set, hi]
  · simp (disch := omega) [L15_0, ltF]
theorem to_14 {p : PV} (h : WfT Tryd.prog 35 p) (hw : p.wt ≤ 1048576) : Rn 14 [p] [p] := by
  obtain ⟨x0, x1, x2, x3, rfl, xh0, xh1, xh2, xh3⟩ := wf35 h
  simp at hw
  have c0 := to_15 xh0 (by omega)
  exact Is.of e14 ((c0).mp fun n h => by simp [F14, h])
theorem eq_18 {p : PV} (h : WfT Tryd.prog 33 p) : Rn 18 [p, p] [.bool true] := by
  obtain ⟨l, rfl, hl, he⟩ := wf_slice (e := 3) (by kernel_rfl) h
  have hm : maxLen = 9223372036854775807 := rfl
  have hloop := loop_run (body := fun n => L18_0 (ev Tryd.prog sg n) n) (e := .x 0) (res := []) (fun i => [.int i, .list l, .list l]) l.length (fun i hi => ?_) (Evt.all fun n => ?_) (by simp)
  · refine Is.of e18 (hloop.mp fun n h => ?_)
    simp at h
    simp (disch := omega) [F18, neF, h]
  · refine Evt.all fun n => ?_
    simp (disch := omega) [L18_0, ltT, geT, wrap64, neF]
  · simp (disch := omega) [L18_0, ltF]
theorem eq_17 {p : PV} (h : WfT Tryd.prog 35 p) : Rn 17 [p, p] [.bool true] := by
  obtain ⟨x0, x1, x2, x3, rfl, xh0, xh1, xh2, xh3⟩ := wf35 h
  have c0 := eq_18 xh0
  exact Is.of e17 ((c0).mp fun n h => by simp [F17, neF, h])
end Go.Proofs.YthmhgnnaihkjaaaDoor.GFnExactShape
