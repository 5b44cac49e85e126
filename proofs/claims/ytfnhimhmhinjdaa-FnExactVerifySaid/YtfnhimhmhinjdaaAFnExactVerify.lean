/- The helpers of the law FnExactVerify: sizes, copies, comparisons, marks. Each under the conditions that it names. -/
import Derived.Test.YtfnhimhmhinjdaaGFnExactVerify
import Derived.Test.YtfnhimhmhinjdaaRscZp
namespace Go.Proofs.Ytfnhimhmhinjdaa.GFnExactVerify
open Go Go.Rsc Go.Proofs.Ytfnhimhmhinjdaa
set_option maxRecDepth 100000
set_option linter.unusedVariables false
set_option linter.unusedSimpArgs false
abbrev Rn (f : FuncId) (a r : List PV) : Prop := Is Try.prog sg f a r
theorem wf155 {p : PV} (h : WfT Try.prog 155 p) : ∃ x0 x1 x2, p = .agg [PV.int x0, PV.int x1, PV.int x2] ∧ (-9223372036854775808 ≤ x0 ∧ x0 < 9223372036854775808) ∧ (-9223372036854775808 ≤ x1 ∧ x1 < 9223372036854775808) ∧ (-9223372036854775808 ≤ x2 ∧ x2 < 9223372036854775808) := by
  obtain ⟨l, rfl, hl, hf⟩ := wf_struct Try.underlying155 h
  obtain ⟨y0, y1, y2, rfl⟩ : ∃ y0 y1 y2, l = [y0, y1, y2] := by
    match l, hl with
    | [a0, a1, a2], _ => exact ⟨a0, a1, a2, rfl⟩
  have h0 := hf 0 _ _ rfl rfl
  obtain ⟨x0, rfl, r0⟩ := wf_int (k := .i64) (by kernel_rfl) h0
  have h1 := hf 1 _ _ rfl rfl
  obtain ⟨x1, rfl, r1⟩ := wf_int (k := .i64) (by kernel_rfl) h1
  have h2 := hf 2 _ _ rfl rfl
  obtain ⟨x2, rfl, r2⟩ := wf_int (k := .i64) (by kernel_rfl) h2
  exact ⟨x0, x1, x2, rfl, wf64 r0, wf64 r1, wf64 r2⟩
theorem mk155 {x0 : Int} {x1 : Int} {x2 : Int} (h0 : (-9223372036854775808 ≤ x0 ∧ x0 < 9223372036854775808)) (h1 : (-9223372036854775808 ≤ x1 ∧ x1 < 9223372036854775808)) (h2 : (-9223372036854775808 ≤ x2 ∧ x2 < 9223372036854775808)) : WfT Try.prog 155 (.agg [PV.int x0, PV.int x1, PV.int x2]) := by
  refine .struct Try.underlying155 rfl fun i f q hf hq => ?_
  match i, hf, hq with
  | 0, hf, hq => obtain rfl := Option.some.inj hf; obtain rfl := Option.some.inj hq; exact .int (k := .i64) (by kernel_rfl) (wf_mk64 h0.1 h0.2)
  | 1, hf, hq => obtain rfl := Option.some.inj hf; obtain rfl := Option.some.inj hq; exact .int (k := .i64) (by kernel_rfl) (wf_mk64 h1.1 h1.2)
  | 2, hf, hq => obtain rfl := Option.some.inj hf; obtain rfl := Option.some.inj hq; exact .int (k := .i64) (by kernel_rfl) (wf_mk64 h2.1 h2.2)
  | n + 3, hf, hq => simp at hq
theorem sz_80 {p : PV} (h : WfT Try.prog 63 p) {x : Int} (hx : 0 ≤ x) (hB : x ≤ 1048576) : Rn 80 [p, .int x] [.int (szR x p.wt)] := by
  obtain ⟨l, rfl, hl, he⟩ := wf_slice (e := 155) (by kernel_rfl) h
  have hz : PV.wts l = 0 := wts_zero fun q hq => by
    have hq := he q hq
    obtain ⟨x0, x1, x2, rfl, xh0, xh1, xh2⟩ := wf155 hq
    simp
  have hm : maxLen = 9223372036854775807 := rfl
  refine Is.of e80 (Evt.all fun n => ?_)
  by_cases s : x - l.length < 0
  · rw [szR_lt (by simp [hz]; omega)]
    simp (disch := omega) [F80, wrap64, ltT]
  · rw [szR_ge (by simp [hz]; omega)]
    simp (disch := omega) [F80, wrap64, ltF, hz]
theorem wf65 {p : PV} (h : WfT Try.prog 65 p) : ∃ x0 x1, p = .agg [PV.int x0, x1] ∧ (-9223372036854775808 ≤ x0 ∧ x0 < 9223372036854775808) ∧ WfT Try.prog 63 x1 := by
  obtain ⟨l, rfl, hl, hf⟩ := wf_struct Try.underlying65 h
  obtain ⟨y0, y1, rfl⟩ : ∃ y0 y1, l = [y0, y1] := by
    match l, hl with
    | [a0, a1], _ => exact ⟨a0, a1, rfl⟩
  have h0 := hf 0 _ _ rfl rfl
  obtain ⟨x0, rfl, r0⟩ := wf_int (k := .i64) (by kernel_rfl) h0
  have h1 := hf 1 _ _ rfl rfl
  exact ⟨x0, y1, rfl, wf64 r0, h1⟩
theorem mk65 {x0 : Int} {x1 : PV} (h0 : (-9223372036854775808 ≤ x0 ∧ x0 < 9223372036854775808)) (h1 : WfT Try.prog 63 x1) : WfT Try.prog 65 (.agg [PV.int x0, x1]) := by
  refine .struct Try.underlying65 rfl fun i f q hf hq => ?_
  match i, hf, hq with
  | 0, hf, hq => obtain rfl := Option.some.inj hf; obtain rfl := Option.some.inj hq; exact .int (k := .i64) (by kernel_rfl) (wf_mk64 h0.1 h0.2)
  | 1, hf, hq => obtain rfl := Option.some.inj hf; obtain rfl := Option.some.inj hq; exact h1
  | n + 2, hf, hq => simp at hq
theorem sz_40 {p : PV} (h : WfT Try.prog 65 p) {x : Int} (hx : 0 ≤ x) (hB : x ≤ 1048576) : Rn 40 [p, .int x] [.int (szR x p.wt)] := by
  obtain ⟨x0, x1, rfl, xh0, xh1⟩ := wf65 h
  have c0 := sz_80 xh1 (x := x) (by omega) (by omega)
  by_cases s0 : szR (x) x1.wt < 0
  · have q : szR x (PV.agg [PV.int x0, x1]).wt = -1 := szR_lt (by have := (szR_neg (w := x1.wt) (x := x) (by omega)).1 s0; simp; omega)
    rw [q]
    exact Is.of e40 ((c0).mp fun n h => by simp [F40, h, ltT s0])
  have g0 : (x1.wt : Int) ≤ x := by have := mt (szR_neg (w := x1.wt) (x := x) (by omega)).2 s0; omega
  have d0 : szR (x) x1.wt = x - x1.wt := szR_ge g0
  rw [d0] at c0 s0
  have q : szR x (PV.agg [PV.int x0, x1]).wt = x - x1.wt := by rw [szR_ge (by simp <;> omega)]; simp <;> omega
  rw [q]
  exact Is.of e40 ((c0).mp fun n h => by simp [F40, h, ltF (Int.not_lt.1 s0)])
theorem sz_9 {p : PV} (h : WfT Try.prog 22 p) {x : Int} (hx : 0 ≤ x) (hB : x ≤ 1048576) : Rn 9 [p, .int x] [.int (szR x p.wt)] := by
  obtain ⟨l, rfl, hl, he⟩ := wf_slice (e := 65) (by kernel_rfl) h
  have hm : maxLen = 9223372036854775807 := rfl
  by_cases s : x - l.length < 0
  · rw [szR_lt (by simp; omega)]
    exact Is.of e9 (Evt.all fun n => by simp (disch := omega) [F9, wrap64, ltT])
  have hloop := sz_loop (body := fun n => L9_0 (ev Try.prog sg n) n) (pay := fun i y => [.int i, .list l, .int y]) (l := l) (B := 1048576) (fun i hi y h1 h2 => ?_) (fun y h1 => Evt.all fun n => ?_) (x - l.length) (by omega) (by omega)
  · have q : szR x (PV.list l).wt = szR (x - l.length) (PV.wts l) := by
      simp only [wt_list, szR]; push_cast
      by_cases hh : (PV.wts l : Int) ≤ x - l.length
      · rw [if_pos hh, if_pos (by omega)]; omega
      · rw [if_neg hh, if_neg (by omega)]
    rw [q]
    refine Is.of e9 (hloop.mp fun n h => ?_)
    simp only [show ((0 : Nat) : Int) = 0 from rfl] at h
    by_cases s2 : szR (x - l.length) (PV.wts l) < 0
    · have s3 := (szR_neg (by omega)).1 s2
      rw [if_pos s2] at h
      rw [szR_lt (by omega)]
      simp (disch := omega) [F9, wrap64, ltF, h]
    · rw [if_neg s2] at h
      simp (disch := omega) [F9, wrap64, ltF, h]
  · refine (sz_40 (he _ (nth_mem hi)) h1 h2).mp fun n h => ?_
    by_cases s2 : szR y (nth l i).wt < 0
    · rw [if_pos s2]
      simp (disch := omega) [L9_0, ltT, geT, wrap64, h, hi]
    · rw [if_neg s2]
      simp (disch := omega) [L9_0, ltT, ltF, geT, wrap64, h, hi]
  · simp (disch := omega) [L9_0, ltF]
theorem to_106 {p : PV} (h : WfT Try.prog 155 p) (hw : p.wt ≤ 1048576) : Rn 106 [p] [p] := by
  obtain ⟨x0, x1, x2, rfl, xh0, xh1, xh2⟩ := wf155 h
  simp at hw
  exact Is.of e106 (Evt.all fun n => by simp [F106])
theorem to_82 {p : PV} (h : WfT Try.prog 63 p) (hw : p.wt ≤ 1048576) : Rn 82 [p] [p] := by
  obtain ⟨l, rfl, hl, he⟩ := wf_slice (e := 155) (by kernel_rfl) h
  simp at hw
  refine Is.of e82 ?_
  have hloop := loop_run (body := fun n => L82_0 (ev Try.prog sg n) n) (e := .x 0) (res := [.list l]) (fun i => [.int i, .list l, .list (l.take i ++ List.replicate (l.length - i) (PV.agg [(PV.int (0 : Int)), (PV.int (0 : Int)), (PV.int (0 : Int))]))]) l.length (fun i hi => ?_) (Evt.all fun n => ?_) (by simp)
  · refine hloop.mp fun n h => ?_
    simp at h
    simp (disch := omega) [F82, leT, geT, h]
  · have hm := nth_mem hi
    refine (to_106 (he _ hm) (by have := wt_mem hm; omega)).mp fun n h => ?_
    simp (disch := omega) [L82_0, ltT, geT, wrap64, h, fill_set, hi]
  · simp (disch := omega) [L82_0, ltF]
theorem to_43 {p : PV} (h : WfT Try.prog 65 p) (hw : p.wt ≤ 1048576) : Rn 43 [p] [p] := by
  obtain ⟨x0, x1, rfl, xh0, xh1⟩ := wf65 h
  simp at hw
  have c0 := to_82 xh1 (by omega)
  exact Is.of e43 ((c0).mp fun n h => by simp [F43, h])
theorem to_11 {p : PV} (h : WfT Try.prog 22 p) (hw : p.wt ≤ 1048576) : Rn 11 [p] [p] := by
  obtain ⟨l, rfl, hl, he⟩ := wf_slice (e := 65) (by kernel_rfl) h
  simp at hw
  refine Is.of e11 ?_
  have hloop := loop_run (body := fun n => L11_0 (ev Try.prog sg n) n) (e := .x 0) (res := [.list l]) (fun i => [.int i, .list l, .list (l.take i ++ List.replicate (l.length - i) (PV.agg [(PV.int (0 : Int)), (PV.list ([] : List PV))]))]) l.length (fun i hi => ?_) (Evt.all fun n => ?_) (by simp)
  · refine hloop.mp fun n h => ?_
    simp at h
    simp (disch := omega) [F11, leT, geT, h]
  · have hm := nth_mem hi
    refine (to_43 (he _ hm) (by have := wt_mem hm; omega)).mp fun n h => ?_
    simp (disch := omega) [L11_0, ltT, geT, wrap64, h, fill_set, hi]
  · simp (disch := omega) [L11_0, ltF]
theorem eq_108 {p : PV} (h : WfT Try.prog 155 p) : Rn 108 [p, p] [.bool true] := by
  obtain ⟨x0, x1, x2, rfl, xh0, xh1, xh2⟩ := wf155 h
  exact Is.of e108 (Evt.all fun n => by simp [F108, neF])
theorem eq_84 {p : PV} (h : WfT Try.prog 63 p) : Rn 84 [p, p] [.bool true] := by
  obtain ⟨l, rfl, hl, he⟩ := wf_slice (e := 155) (by kernel_rfl) h
  have hm : maxLen = 9223372036854775807 := rfl
  have hloop := loop_run (body := fun n => L84_0 (ev Try.prog sg n) n) (e := .x 0) (res := []) (fun i => [.int i, .list l, .list l]) l.length (fun i hi => ?_) (Evt.all fun n => ?_) (by simp)
  · refine Is.of e84 (hloop.mp fun n h => ?_)
    simp at h
    simp (disch := omega) [F84, neF, h]
  · refine (eq_108 (he _ (nth_mem hi))).mp fun n h => ?_
    simp (disch := omega) [L84_0, ltT, geT, wrap64, h]
  · simp (disch := omega) [L84_0, ltF]
theorem eq_46 {p : PV} (h : WfT Try.prog 65 p) : Rn 46 [p, p] [.bool true] := by
  obtain ⟨x0, x1, rfl, xh0, xh1⟩ := wf65 h
  have c0 := eq_84 xh1
  exact Is.of e46 ((c0).mp fun n h => by simp [F46, neF, h])
theorem eq_14 {p : PV} (h : WfT Try.prog 22 p) : Rn 14 [p, p] [.bool true] := by
  obtain ⟨l, rfl, hl, he⟩ := wf_slice (e := 65) (by kernel_rfl) h
  have hm : maxLen = 9223372036854775807 := rfl
  have hloop := loop_run (body := fun n => L14_0 (ev Try.prog sg n) n) (e := .x 0) (res := []) (fun i => [.int i, .list l, .list l]) l.length (fun i hi => ?_) (Evt.all fun n => ?_) (by simp)
  · refine Is.of e14 (hloop.mp fun n h => ?_)
    simp at h
    simp (disch := omega) [F14, neF, h]
  · refine (eq_46 (he _ (nth_mem hi))).mp fun n h => ?_
    simp (disch := omega) [L14_0, ltT, geT, wrap64, h]
  · simp (disch := omega) [L14_0, ltF]
end Go.Proofs.Ytfnhimhmhinjdaa.GFnExactVerify
