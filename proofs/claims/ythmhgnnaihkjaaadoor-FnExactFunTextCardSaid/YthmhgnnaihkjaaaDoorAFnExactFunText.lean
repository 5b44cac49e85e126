/- The helpers of the law FnExactFunText: sizes, copies, comparisons, marks. Each under the conditions that it names. -/
import Derived.Test.YthmhgnnaihkjaaaDoorGFnExactFunText
import Derived.Test.YthmhgnnaihkjaaaDoorRscZp
namespace Go.Proofs.YthmhgnnaihkjaaaDoor.GFnExactFunText
open Go Go.Rsc Go.Proofs.YthmhgnnaihkjaaaDoor
set_option maxRecDepth 100000
set_option linter.unusedVariables false
set_option linter.unusedSimpArgs false
theorem size_mem {l : List PV} {x : PV} (h : x ∈ l) : SizeOf.sizeOf x < SizeOf.sizeOf (PV.list l) := by
  have := List.sizeOf_lt_of_mem h
  simp; omega
@[simp] theorem cmpS_ne (s : ByteArray) : cmpS BinOp.neq s s = false := by simp [cmpS]
abbrev Rn (f : FuncId) (a r : List PV) : Prop := Is Tryd.prog sg f a r
theorem wf81 {p : PV} (h : WfT Tryd.prog 81 p) : ∃ x0 x1 x2, p = .agg [PV.int x0, PV.int x1, PV.int x2] ∧ (-9223372036854775808 ≤ x0 ∧ x0 < 9223372036854775808) ∧ (-9223372036854775808 ≤ x1 ∧ x1 < 9223372036854775808) ∧ (-9223372036854775808 ≤ x2 ∧ x2 < 9223372036854775808) := by
  obtain ⟨l, rfl, hl, hf⟩ := wf_struct Tryd.underlying81 h
  obtain ⟨y0, y1, y2, rfl⟩ : ∃ y0 y1 y2, l = [y0, y1, y2] := by
    match l, hl with
    | [a0, a1, a2], _ => exact ⟨a0, a1, a2, rfl⟩
  have h0 := hf 0 _ _ rfl rfl
  obtain ⟨x0, rfl, r0⟩ := wf_int (k := .i64) (by kernel_rfl) h0
  have h1 := hf 1 _ _ rfl rfl
  obtain ⟨x1, rfl, r1⟩ := wf_int (k := .i64) (by kernel_rfl) h1
  have h2 := hf 2 _ _ rfl rfl
  obtain ⟨x2, rfl, r2⟩ := wf_int (k := .i64) (by kernel_rfl) h2
  exact ⟨x0, x1, x2, rfl, wf64 r0, wf64 r1, wf64 r2⟩
theorem mk81 {x0 : Int} {x1 : Int} {x2 : Int} (h0 : (-9223372036854775808 ≤ x0 ∧ x0 < 9223372036854775808)) (h1 : (-9223372036854775808 ≤ x1 ∧ x1 < 9223372036854775808)) (h2 : (-9223372036854775808 ≤ x2 ∧ x2 < 9223372036854775808)) : WfT Tryd.prog 81 (.agg [PV.int x0, PV.int x1, PV.int x2]) := by
  refine .struct Tryd.underlying81 rfl fun i f q hf hq => ?_
  match i, hf, hq with
  | 0, hf, hq => obtain rfl := Option.some.inj hf; obtain rfl := Option.some.inj hq; exact .int (k := .i64) (by kernel_rfl) (wf_mk64 h0.1 h0.2)
  | 1, hf, hq => obtain rfl := Option.some.inj hf; obtain rfl := Option.some.inj hq; exact .int (k := .i64) (by kernel_rfl) (wf_mk64 h1.1 h1.2)
  | 2, hf, hq => obtain rfl := Option.some.inj hf; obtain rfl := Option.some.inj hq; exact .int (k := .i64) (by kernel_rfl) (wf_mk64 h2.1 h2.2)
  | n + 3, hf, hq => simp at hq
theorem sz_23 {p : PV} (h : WfT Tryd.prog 22 p) {x : Int} (hx : 0 ≤ x) (hB : x ≤ 1048576) : Rn 23 [p, .int x] [.int (szR x p.wt)] := by
  obtain ⟨l, rfl, hl, he⟩ := wf_slice (e := 81) (by kernel_rfl) h
  have hz : PV.wts l = 0 := wts_zero fun q hq => by
    have hq := he q hq
    obtain ⟨x0, x1, x2, rfl, xh0, xh1, xh2⟩ := wf81 hq
    simp
  have hm : maxLen = 9223372036854775807 := rfl
  refine Is.of e23 (Evt.all fun n => ?_)
  by_cases s : x - l.length < 0
  · rw [szR_lt (by simp [hz]; omega)]
    simp (disch := omega) [F23, wrap64, ltT]
  · rw [szR_ge (by simp [hz]; omega)]
    simp (disch := omega) [F23, wrap64, ltF, hz]
theorem wf24 {p : PV} (h : WfT Tryd.prog 24 p) : ∃ x0 x1, p = .agg [PV.int x0, x1] ∧ (-9223372036854775808 ≤ x0 ∧ x0 < 9223372036854775808) ∧ WfT Tryd.prog 22 x1 := by
  obtain ⟨l, rfl, hl, hf⟩ := wf_struct Tryd.underlying24 h
  obtain ⟨y0, y1, rfl⟩ : ∃ y0 y1, l = [y0, y1] := by
    match l, hl with
    | [a0, a1], _ => exact ⟨a0, a1, rfl⟩
  have h0 := hf 0 _ _ rfl rfl
  obtain ⟨x0, rfl, r0⟩ := wf_int (k := .i64) (by kernel_rfl) h0
  have h1 := hf 1 _ _ rfl rfl
  exact ⟨x0, y1, rfl, wf64 r0, h1⟩
theorem mk24 {x0 : Int} {x1 : PV} (h0 : (-9223372036854775808 ≤ x0 ∧ x0 < 9223372036854775808)) (h1 : WfT Tryd.prog 22 x1) : WfT Tryd.prog 24 (.agg [PV.int x0, x1]) := by
  refine .struct Tryd.underlying24 rfl fun i f q hf hq => ?_
  match i, hf, hq with
  | 0, hf, hq => obtain rfl := Option.some.inj hf; obtain rfl := Option.some.inj hq; exact .int (k := .i64) (by kernel_rfl) (wf_mk64 h0.1 h0.2)
  | 1, hf, hq => obtain rfl := Option.some.inj hf; obtain rfl := Option.some.inj hq; exact h1
  | n + 2, hf, hq => simp at hq
theorem sz_7 {p : PV} (h : WfT Tryd.prog 24 p) {x : Int} (hx : 0 ≤ x) (hB : x ≤ 1048576) : Rn 7 [p, .int x] [.int (szR x p.wt)] := by
  obtain ⟨x0, x1, rfl, xh0, xh1⟩ := wf24 h
  have c0 := sz_23 xh1 (x := x) (by omega) (by omega)
  by_cases s0 : szR (x) x1.wt < 0
  · have q : szR x (PV.agg [PV.int x0, x1]).wt = -1 := szR_lt (by have := (szR_neg (w := x1.wt) (x := x) (by omega)).1 s0; simp; omega)
    rw [q]
    exact Is.of e7 ((c0).mp fun n h => by simp [F7, h, ltT s0])
  have g0 : (x1.wt : Int) ≤ x := by have := mt (szR_neg (w := x1.wt) (x := x) (by omega)).2 s0; omega
  have d0 : szR (x) x1.wt = x - x1.wt := szR_ge g0
  rw [d0] at c0 s0
  have q : szR x (PV.agg [PV.int x0, x1]).wt = x - x1.wt := by rw [szR_ge (by simp <;> omega)]; simp <;> omega
  rw [q]
  exact Is.of e7 ((c0).mp fun n h => by simp [F7, h, ltF (Int.not_lt.1 s0)])
theorem to_53 {p : PV} (h : WfT Tryd.prog 81 p) (hw : p.wt ≤ 1048576) : Rn 53 [p] [p] := by
  obtain ⟨x0, x1, x2, rfl, xh0, xh1, xh2⟩ := wf81 h
  simp at hw
  exact Is.of e53 (Evt.all fun n => by simp [F53])
theorem to_26 {p : PV} (h : WfT Tryd.prog 22 p) (hw : p.wt ≤ 1048576) : Rn 26 [p] [p] := by
  obtain ⟨l, rfl, hl, he⟩ := wf_slice (e := 81) (by kernel_rfl) h
  simp at hw
  refine Is.of e26 ?_
  have hloop := loop_run (body := fun n => L26_0 (ev Tryd.prog sg n) n) (e := .x 0) (res := [.list l]) (fun i => [.int i, .list l, .list (l.take i ++ List.replicate (l.length - i) (PV.agg [(PV.int (0 : Int)), (PV.int (0 : Int)), (PV.int (0 : Int))]))]) l.length (fun i hi => ?_) (Evt.all fun n => ?_) (by simp)
  · refine hloop.mp fun n h => ?_
    simp at h
    simp (disch := omega) [F26, leT, geT, h]
  · have hm := nth_mem hi
    refine (to_53 (he _ hm) (by have := wt_mem hm; omega)).mp fun n h => ?_
    simp (disch := omega) [L26_0, ltT, geT, wrap64, h, fill_set, hi]
  · simp (disch := omega) [L26_0, ltF]
theorem to_9 {p : PV} (h : WfT Tryd.prog 24 p) (hw : p.wt ≤ 1048576) : Rn 9 [p] [p] := by
  obtain ⟨x0, x1, rfl, xh0, xh1⟩ := wf24 h
  simp at hw
  have c0 := to_26 xh1 (by omega)
  exact Is.of e9 ((c0).mp fun n h => by simp [F9, h])
theorem eq_56 {p : PV} (h : WfT Tryd.prog 81 p) : Rn 56 [p, p] [.bool true] := by
  obtain ⟨x0, x1, x2, rfl, xh0, xh1, xh2⟩ := wf81 h
  exact Is.of e56 (Evt.all fun n => by simp [F56, neF])
theorem eq_29 {p : PV} (h : WfT Tryd.prog 22 p) : Rn 29 [p, p] [.bool true] := by
  obtain ⟨l, rfl, hl, he⟩ := wf_slice (e := 81) (by kernel_rfl) h
  have hm : maxLen = 9223372036854775807 := rfl
  have hloop := loop_run (body := fun n => L29_0 (ev Tryd.prog sg n) n) (e := .x 0) (res := []) (fun i => [.int i, .list l, .list l]) l.length (fun i hi => ?_) (Evt.all fun n => ?_) (by simp)
  · refine Is.of e29 (hloop.mp fun n h => ?_)
    simp at h
    simp (disch := omega) [F29, neF, h]
  · refine (eq_56 (he _ (nth_mem hi))).mp fun n h => ?_
    simp (disch := omega) [L29_0, ltT, geT, wrap64, h]
  · simp (disch := omega) [L29_0, ltF]
theorem eq_11 {p : PV} (h : WfT Tryd.prog 24 p) : Rn 11 [p, p] [.bool true] := by
  obtain ⟨x0, x1, rfl, xh0, xh1⟩ := wf24 h
  have c0 := eq_29 xh1
  exact Is.of e11 ((c0).mp fun n h => by simp [F11, neF, h])
end Go.Proofs.YthmhgnnaihkjaaaDoor.GFnExactFunText
