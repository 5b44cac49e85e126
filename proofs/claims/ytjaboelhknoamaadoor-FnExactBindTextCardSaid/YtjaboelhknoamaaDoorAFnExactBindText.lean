/- The helpers of the law FnExactBindText: sizes, copies, comparisons, marks. Each under the conditions that it names. -/
import Derived.Test.YtjaboelhknoamaaDoorGFnExactBindText
import Derived.Test.YtjaboelhknoamaaDoorRscZp
namespace Go.Proofs.YtjaboelhknoamaaDoor.GFnExactBindText
open Go Go.Rsc Go.Proofs.YtjaboelhknoamaaDoor
set_option maxRecDepth 100000
set_option linter.unusedVariables false
set_option linter.unusedSimpArgs false
theorem size_mem {l : List PV} {x : PV} (h : x ∈ l) : SizeOf.sizeOf x < SizeOf.sizeOf (PV.list l) := by
  have := List.sizeOf_lt_of_mem h
  simp; omega
@[simp] theorem cmpS_ne (s : ByteArray) : cmpS BinOp.neq s s = false := by simp [cmpS]
abbrev Rn (f : FuncId) (a r : List PV) : Prop := Is Tryd.prog sg f a r
theorem sz_34 {p : PV} (h : WfT Tryd.prog 33 p) {x : Int} (hx : 0 ≤ x) (hB : x ≤ 1048576) : Rn 34 [p, .int x] [.int (szR x p.wt)] := by
  obtain ⟨l, rfl, hl, he⟩ := wf_slice (e := 3) (by kernel_rfl) h
  have hz : PV.wts l = 0 := wts_zero fun q hq => by
    have hq := he q hq
    obtain ⟨x0, rfl, xr⟩ := wf_int (k := .i64) (by kernel_rfl) hq
    have xr := wf64 xr
    simp
  have hm : maxLen = 9223372036854775807 := rfl
  refine Is.of e34 (Evt.all fun n => ?_)
  by_cases s : x - l.length < 0
  · rw [szR_lt (by simp [hz]; omega)]
    simp (disch := omega) [F34, wrap64, ltT]
  · rw [szR_ge (by simp [hz]; omega)]
    simp (disch := omega) [F34, wrap64, ltF, hz]
theorem wf35 {p : PV} (h : WfT Tryd.prog 35 p) : ∃ x0 x1 x2 x3 x4, p = .agg [PV.str x0, x1, PV.int x2, PV.int x3, PV.int x4] ∧ x0.size ≤ maxLen ∧ WfT Tryd.prog 33 x1 ∧ (-9223372036854775808 ≤ x2 ∧ x2 < 9223372036854775808) ∧ (-9223372036854775808 ≤ x3 ∧ x3 < 9223372036854775808) ∧ (-9223372036854775808 ≤ x4 ∧ x4 < 9223372036854775808) := by
  obtain ⟨l, rfl, hl, hf⟩ := wf_struct Tryd.underlying35 h
  obtain ⟨y0, y1, y2, y3, y4, rfl⟩ : ∃ y0 y1 y2 y3 y4, l = [y0, y1, y2, y3, y4] := by
    match l, hl with
    | [a0, a1, a2, a3, a4], _ => exact ⟨a0, a1, a2, a3, a4, rfl⟩
  have h0 := hf 0 _ _ rfl rfl
  obtain ⟨x0, rfl, r0⟩ := wf_str (by kernel_rfl) h0
  have h1 := hf 1 _ _ rfl rfl
  have h2 := hf 2 _ _ rfl rfl
  obtain ⟨x2, rfl, r2⟩ := wf_int (k := .i64) (by kernel_rfl) h2
  have h3 := hf 3 _ _ rfl rfl
  obtain ⟨x3, rfl, r3⟩ := wf_int (k := .i64) (by kernel_rfl) h3
  have h4 := hf 4 _ _ rfl rfl
  obtain ⟨x4, rfl, r4⟩ := wf_int (k := .i64) (by kernel_rfl) h4
  exact ⟨x0, y1, x2, x3, x4, rfl, r0, h1, wf64 r2, wf64 r3, wf64 r4⟩
theorem mk35 {x0 : ByteArray} {x1 : PV} {x2 : Int} {x3 : Int} {x4 : Int} (h0 : x0.size ≤ maxLen) (h1 : WfT Tryd.prog 33 x1) (h2 : (-9223372036854775808 ≤ x2 ∧ x2 < 9223372036854775808)) (h3 : (-9223372036854775808 ≤ x3 ∧ x3 < 9223372036854775808)) (h4 : (-9223372036854775808 ≤ x4 ∧ x4 < 9223372036854775808)) : WfT Tryd.prog 35 (.agg [PV.str x0, x1, PV.int x2, PV.int x3, PV.int x4]) := by
  refine .struct Tryd.underlying35 rfl fun i f q hf hq => ?_
  match i, hf, hq with
  | 0, hf, hq => obtain rfl := Option.some.inj hf; obtain rfl := Option.some.inj hq; exact .str (by kernel_rfl) h0
  | 1, hf, hq => obtain rfl := Option.some.inj hf; obtain rfl := Option.some.inj hq; exact h1
  | 2, hf, hq => obtain rfl := Option.some.inj hf; obtain rfl := Option.some.inj hq; exact .int (k := .i64) (by kernel_rfl) (wf_mk64 h2.1 h2.2)
  | 3, hf, hq => obtain rfl := Option.some.inj hf; obtain rfl := Option.some.inj hq; exact .int (k := .i64) (by kernel_rfl) (wf_mk64 h3.1 h3.2)
  | 4, hf, hq => obtain rfl := Option.some.inj hf; obtain rfl := Option.some.inj hq; exact .int (k := .i64) (by kernel_rfl) (wf_mk64 h4.1 h4.2)
  | n + 5, hf, hq => simp at hq
theorem sz_12 {p : PV} (h : WfT Tryd.prog 35 p) {x : Int} (hx : 0 ≤ x) (hB : x ≤ 1048576) : Rn 12 [p, .int x] [.int (szR x p.wt)] := by
  obtain ⟨x0, x1, x2, x3, x4, rfl, xh0, xh1, xh2, xh3, xh4⟩ := wf35 h
  have hm : maxLen = 9223372036854775807 := rfl
  have w0 : IntKind.i64.wrap (x - (x0.size : Int)) = x - x0.size := wrap64 (by omega) (by omega)
  by_cases s0 : x - (x0.size : Int) < 0
  · have q : szR x (PV.agg [PV.str x0, x1, PV.int x2, PV.int x3, PV.int x4]).wt = -1 := szR_lt (by simp; omega)
    rw [q]
    exact Is.of e12 (Evt.all fun n => by simp [F12, w0, ltT s0])
  have c1 := sz_34 xh1 (x := x - x0.size) (by omega) (by omega)
  by_cases s1 : szR (x - x0.size) x1.wt < 0
  · have q : szR x (PV.agg [PV.str x0, x1, PV.int x2, PV.int x3, PV.int x4]).wt = -1 := szR_lt (by have := (szR_neg (w := x1.wt) (x := x - x0.size) (by omega)).1 s1; simp; omega)
    rw [q]
    exact Is.of e12 ((c1).mp fun n h => by simp [F12, h, w0, ltF (Int.not_lt.1 s0), ltT s1])
  have g1 : (x1.wt : Int) ≤ x - x0.size := by have := mt (szR_neg (w := x1.wt) (x := x - x0.size) (by omega)).2 s1; omega
  have d1 : szR (x - x0.size) x1.wt = x - x0.size - x1.wt := szR_ge g1
  rw [d1] at c1 s1
  have q : szR x (PV.agg [PV.str x0, x1, PV.int x2, PV.int x3, PV.int x4]).wt = x - x0.size - x1.wt := by rw [szR_ge (by simp <;> omega)]; simp <;> omega
  rw [q]
  exact Is.of e12 ((c1).mp fun n h => by simp [F12, h, w0, ltF (Int.not_lt.1 s0), ltF (Int.not_lt.1 s1)])
theorem to_37 {p : PV} (h : WfT Tryd.prog 33 p) (hw : p.wt ≤ 1048576) : Rn 37 [p] [p] := by
  obtain ⟨l, rfl, hl, he⟩ := wf_slice (e := 3) (by kernel_rfl) h
  simp at hw
  refine Is.of e37 ?_
  have hloop := loop_run (body := fun n => L37_0 (ev Tryd.prog sg n) n) (e := .x 0) (res := [.list l]) (fun i => [.int i, .list l, .list (l.take i ++ List.replicate (l.length - i) (PV.int (0 : Int)))]) l.length (fun i hi => ?_) (Evt.all fun n => ?_) (by simp)
  · refine hloop.mp fun n h => ?_
    simp at h
    simp (disch := omega) [F37, leT, geT, h]
  · refine Evt.all fun n => ?_
    simp (disch := omega) [L37_0, ltT, geT, wrap64, fill_set, hi]
  · simp (disch := omega) [L37_0, ltF]
theorem to_14 {p : PV} (h : WfT Tryd.prog 35 p) (hw : p.wt ≤ 1048576) : Rn 14 [p] [p] := by
  obtain ⟨x0, x1, x2, x3, x4, rfl, xh0, xh1, xh2, xh3, xh4⟩ := wf35 h
  simp at hw
  have c0 := to_37 xh1 (by omega)
  exact Is.of e14 ((c0).mp fun n h => by simp [F14, h])
theorem eq_40 {p : PV} (h : WfT Tryd.prog 33 p) : Rn 40 [p, p] [.bool true] := by
  obtain ⟨l, rfl, hl, he⟩ := wf_slice (e := 3) (by kernel_rfl) h
  have hm : maxLen = 9223372036854775807 := rfl
  have hloop := loop_run (body := fun n => L40_0 (ev Tryd.prog sg n) n) (e := .x 0) (res := []) (fun i => [.int i, .list l, .list l]) l.length (fun i hi => ?_) (Evt.all fun n => ?_) (by simp)
  · refine Is.of e40 (hloop.mp fun n h => ?_)
    simp at h
    simp (disch := omega) [F40, neF, h]
  · refine Evt.all fun n => ?_
    simp (disch := omega) [L40_0, ltT, geT, wrap64, neF]
  · simp (disch := omega) [L40_0, ltF]
theorem eq_16 {p : PV} (h : WfT Tryd.prog 35 p) : Rn 16 [p, p] [.bool true] := by
  obtain ⟨x0, x1, x2, x3, x4, rfl, xh0, xh1, xh2, xh3, xh4⟩ := wf35 h
  have c0 := eq_40 xh1
  exact Is.of e16 ((c0).mp fun n h => by simp [F16, neF, h])
end Go.Proofs.YtjaboelhknoamaaDoor.GFnExactBindText
