/- The helpers of the law FnExactOutcome: sizes, copies, comparisons, marks. Each under the conditions that it names. -/
import Derived.Test.YtijgokehlicmnaaGFnExactOutcome
import Derived.Test.YtijgokehlicmnaaRscZp
namespace Go.Proofs.Ytijgokehlicmnaa.GFnExactOutcome
open Go Go.Rsc Go.Proofs.Ytijgokehlicmnaa
set_option maxRecDepth 100000
set_option linter.unusedVariables false
set_option linter.unusedSimpArgs false
theorem size_mem {l : List PV} {x : PV} (h : x ∈ l) : SizeOf.sizeOf x < SizeOf.sizeOf (PV.list l) := by
  have := List.sizeOf_lt_of_mem h
  simp; omega
abbrev Rn (f : FuncId) (a r : List PV) : Prop := Is Try.prog sg f a r
theorem wf198 {p : PV} (h : WfT Try.prog 198 p) : ∃ x0 x1 x2, p = .agg [PV.int x0, PV.int x1, PV.int x2] ∧ (-9223372036854775808 ≤ x0 ∧ x0 < 9223372036854775808) ∧ (-9223372036854775808 ≤ x1 ∧ x1 < 9223372036854775808) ∧ (-9223372036854775808 ≤ x2 ∧ x2 < 9223372036854775808) := by
  obtain ⟨l, rfl, hl, hf⟩ := wf_struct Try.underlying198 h
  obtain ⟨y0, y1, y2, rfl⟩ : ∃ y0 y1 y2, l = [y0, y1, y2] := by
    match l, hl with
    | [a0, a1, a2], _ => exact ⟨a0, a1, a2, rfl⟩
  have h0 := hf 0 _ _ rfl rfl
  obtain ⟨x0, rfl, r0⟩ := wf_int (k := .i64) (by kernel_rfl) h0
  have h1 := hf 1 _ _ rfl rfl
  obtain ⟨x1, rfl, r1⟩ := wf_int (k := .i64) (by kernel_rfl) h1
  have h2 := hf 2 _ _ rfl rfl
  obtain ⟨x2, rfl, r2⟩ := wf_int (k := .i64) (by kernel_rfl) h2
  exact ⟨x0, x1, x2, rfl, wf64 r0, wf64 r1, wf64 r2⟩
theorem mk198 {x0 : Int} {x1 : Int} {x2 : Int} (h0 : (-9223372036854775808 ≤ x0 ∧ x0 < 9223372036854775808)) (h1 : (-9223372036854775808 ≤ x1 ∧ x1 < 9223372036854775808)) (h2 : (-9223372036854775808 ≤ x2 ∧ x2 < 9223372036854775808)) : WfT Try.prog 198 (.agg [PV.int x0, PV.int x1, PV.int x2]) := by
  refine .struct Try.underlying198 rfl fun i f q hf hq => ?_
  match i, hf, hq with
  | 0, hf, hq => obtain rfl := Option.some.inj hf; obtain rfl := Option.some.inj hq; exact .int (k := .i64) (by kernel_rfl) (wf_mk64 h0.1 h0.2)
  | 1, hf, hq => obtain rfl := Option.some.inj hf; obtain rfl := Option.some.inj hq; exact .int (k := .i64) (by kernel_rfl) (wf_mk64 h1.1 h1.2)
  | 2, hf, hq => obtain rfl := Option.some.inj hf; obtain rfl := Option.some.inj hq; exact .int (k := .i64) (by kernel_rfl) (wf_mk64 h2.1 h2.2)
  | n + 3, hf, hq => simp at hq
theorem sz_115 {p : PV} (h : WfT Try.prog 61 p) {x : Int} (hx : 0 ≤ x) (hB : x ≤ 1048576) : Rn 115 [p, .int x] [.int (szR x p.wt)] := by
  obtain ⟨l, rfl, hl, he⟩ := wf_slice (e := 198) (by kernel_rfl) h
  have hz : PV.wts l = 0 := wts_zero fun q hq => by
    have hq := he q hq
    obtain ⟨x0, x1, x2, rfl, xh0, xh1, xh2⟩ := wf198 hq
    simp
  have hm : maxLen = 9223372036854775807 := rfl
  refine Is.of e115 (Evt.all fun n => ?_)
  by_cases s : x - l.length < 0
  · rw [szR_lt (by simp [hz]; omega)]
    simp (disch := omega) [F115, wrap64, ltT]
  · rw [szR_ge (by simp [hz]; omega)]
    simp (disch := omega) [F115, wrap64, ltF, hz]
theorem wf243 {p : PV} (h : WfT Try.prog 243 p) : ∃ x0 x1 x2, p = .agg [PV.int x0, PV.int x1, PV.int x2] ∧ (-9223372036854775808 ≤ x0 ∧ x0 < 9223372036854775808) ∧ (-9223372036854775808 ≤ x1 ∧ x1 < 9223372036854775808) ∧ (-9223372036854775808 ≤ x2 ∧ x2 < 9223372036854775808) := by
  obtain ⟨l, rfl, hl, hf⟩ := wf_struct Try.underlying243 h
  obtain ⟨y0, y1, y2, rfl⟩ : ∃ y0 y1 y2, l = [y0, y1, y2] := by
    match l, hl with
    | [a0, a1, a2], _ => exact ⟨a0, a1, a2, rfl⟩
  have h0 := hf 0 _ _ rfl rfl
  obtain ⟨x0, rfl, r0⟩ := wf_int (k := .i64) (by kernel_rfl) h0
  have h1 := hf 1 _ _ rfl rfl
  obtain ⟨x1, rfl, r1⟩ := wf_int (k := .i64) (by kernel_rfl) h1
  have h2 := hf 2 _ _ rfl rfl
  obtain ⟨x2, rfl, r2⟩ := wf_int (k := .i64) (by kernel_rfl) h2
  exact ⟨x0, x1, x2, rfl, wf64 r0, wf64 r1, wf64 r2⟩
theorem mk243 {x0 : Int} {x1 : Int} {x2 : Int} (h0 : (-9223372036854775808 ≤ x0 ∧ x0 < 9223372036854775808)) (h1 : (-9223372036854775808 ≤ x1 ∧ x1 < 9223372036854775808)) (h2 : (-9223372036854775808 ≤ x2 ∧ x2 < 9223372036854775808)) : WfT Try.prog 243 (.agg [PV.int x0, PV.int x1, PV.int x2]) := by
  refine .struct Try.underlying243 rfl fun i f q hf hq => ?_
  match i, hf, hq with
  | 0, hf, hq => obtain rfl := Option.some.inj hf; obtain rfl := Option.some.inj hq; exact .int (k := .i64) (by kernel_rfl) (wf_mk64 h0.1 h0.2)
  | 1, hf, hq => obtain rfl := Option.some.inj hf; obtain rfl := Option.some.inj hq; exact .int (k := .i64) (by kernel_rfl) (wf_mk64 h1.1 h1.2)
  | 2, hf, hq => obtain rfl := Option.some.inj hf; obtain rfl := Option.some.inj hq; exact .int (k := .i64) (by kernel_rfl) (wf_mk64 h2.1 h2.2)
  | n + 3, hf, hq => simp at hq
theorem sz_187 {p : PV} (h : WfT Try.prog 174 p) {x : Int} (hx : 0 ≤ x) (hB : x ≤ 1048576) : Rn 187 [p, .int x] [.int (szR x p.wt)] := by
  obtain ⟨l, rfl, hl, he⟩ := wf_slice (e := 243) (by kernel_rfl) h
  have hz : PV.wts l = 0 := wts_zero fun q hq => by
    have hq := he q hq
    obtain ⟨x0, x1, x2, rfl, xh0, xh1, xh2⟩ := wf243 hq
    simp
  have hm : maxLen = 9223372036854775807 := rfl
  refine Is.of e187 (Evt.all fun n => ?_)
  by_cases s : x - l.length < 0
  · rw [szR_lt (by simp [hz]; omega)]
    simp (disch := omega) [F187, wrap64, ltT]
  · rw [szR_ge (by simp [hz]; omega)]
    simp (disch := omega) [F187, wrap64, ltF, hz]
theorem wf176 {p : PV} (h : WfT Try.prog 176 p) : ∃ x0 x1, p = .agg [PV.int x0, x1] ∧ (-9223372036854775808 ≤ x0 ∧ x0 < 9223372036854775808) ∧ WfT Try.prog 174 x1 := by
  obtain ⟨l, rfl, hl, hf⟩ := wf_struct Try.underlying176 h
  obtain ⟨y0, y1, rfl⟩ : ∃ y0 y1, l = [y0, y1] := by
    match l, hl with
    | [a0, a1], _ => exact ⟨a0, a1, rfl⟩
  have h0 := hf 0 _ _ rfl rfl
  obtain ⟨x0, rfl, r0⟩ := wf_int (k := .i64) (by kernel_rfl) h0
  have h1 := hf 1 _ _ rfl rfl
  exact ⟨x0, y1, rfl, wf64 r0, h1⟩
theorem mk176 {x0 : Int} {x1 : PV} (h0 : (-9223372036854775808 ≤ x0 ∧ x0 < 9223372036854775808)) (h1 : WfT Try.prog 174 x1) : WfT Try.prog 176 (.agg [PV.int x0, x1]) := by
  refine .struct Try.underlying176 rfl fun i f q hf hq => ?_
  match i, hf, hq with
  | 0, hf, hq => obtain rfl := Option.some.inj hf; obtain rfl := Option.some.inj hq; exact .int (k := .i64) (by kernel_rfl) (wf_mk64 h0.1 h0.2)
  | 1, hf, hq => obtain rfl := Option.some.inj hf; obtain rfl := Option.some.inj hq; exact h1
  | n + 2, hf, hq => simp at hq
theorem sz_149 {p : PV} (h : WfT Try.prog 176 p) {x : Int} (hx : 0 ≤ x) (hB : x ≤ 1048576) : Rn 149 [p, .int x] [.int (szR x p.wt)] := by
  obtain ⟨x0, x1, rfl, xh0, xh1⟩ := wf176 h
  have c0 := sz_187 xh1 (x := x) (by omega) (by omega)
  by_cases s0 : szR (x) x1.wt < 0
  · have q : szR x (PV.agg [PV.int x0, x1]).wt = -1 := szR_lt (by have := (szR_neg (w := x1.wt) (x := x) (by omega)).1 s0; simp; omega)
    rw [q]
    exact Is.of e149 ((c0).mp fun n h => by simp [F149, h, ltT s0])
  have g0 : (x1.wt : Int) ≤ x := by have := mt (szR_neg (w := x1.wt) (x := x) (by omega)).2 s0; omega
  have d0 : szR (x) x1.wt = x - x1.wt := szR_ge g0
  rw [d0] at c0 s0
  have q : szR x (PV.agg [PV.int x0, x1]).wt = x - x1.wt := by rw [szR_ge (by simp <;> omega)]; simp <;> omega
  rw [q]
  exact Is.of e149 ((c0).mp fun n h => by simp [F149, h, ltF (Int.not_lt.1 s0)])
theorem sz_73 {p : PV} (h : WfT Try.prog 60 p) {x : Int} (hx : 0 ≤ x) (hB : x ≤ 1048576) : Rn 73 [p, .int x] [.int (szR x p.wt)] := by
  obtain ⟨l, rfl, hl, he⟩ := wf_slice (e := 176) (by kernel_rfl) h
  have hm : maxLen = 9223372036854775807 := rfl
  by_cases s : x - l.length < 0
  · rw [szR_lt (by simp; omega)]
    exact Is.of e73 (Evt.all fun n => by simp (disch := omega) [F73, wrap64, ltT])
  have hloop := sz_loop (body := fun n => L73_0 (ev Try.prog sg n) n) (pay := fun i y => [.int i, .list l, .int y]) (l := l) (B := 1048576) (fun i hi y h1 h2 => ?_) (fun y h1 => Evt.all fun n => ?_) (x - l.length) (by omega) (by omega)
  · have q : szR x (PV.list l).wt = szR (x - l.length) (PV.wts l) := by
      simp only [wt_list, szR]; push_cast
      by_cases hh : (PV.wts l : Int) ≤ x - l.length
      · rw [if_pos hh, if_pos (by omega)]; omega
      · rw [if_neg hh, if_neg (by omega)]
    rw [q]
    refine Is.of e73 (hloop.mp fun n h => ?_)
    simp only [show ((0 : Nat) : Int) = 0 from rfl] at h
    by_cases s2 : szR (x - l.length) (PV.wts l) < 0
    · have s3 := (szR_neg (by omega)).1 s2
      rw [if_pos s2] at h
      rw [szR_lt (by omega)]
      simp (disch := omega) [F73, wrap64, ltF, h]
    · rw [if_neg s2] at h
      simp (disch := omega) [F73, wrap64, ltF, h]
  · refine (sz_149 (he _ (nth_mem hi)) h1 h2).mp fun n h => ?_
    by_cases s2 : szR y (nth l i).wt < 0
    · rw [if_pos s2]
      simp (disch := omega) [L73_0, ltT, geT, wrap64, h, hi]
    · rw [if_neg s2]
      simp (disch := omega) [L73_0, ltT, ltF, geT, wrap64, h, hi]
  · simp (disch := omega) [L73_0, ltF]
theorem sz_78 {p : PV} (h : WfT Try.prog 22 p) {x : Int} (hx : 0 ≤ x) (hB : x ≤ 1048576) : Rn 78 [p, .int x] [.int (szR x p.wt)] := by
  obtain ⟨l, rfl, hl, he⟩ := wf_slice (e := 3) (by kernel_rfl) h
  have hz : PV.wts l = 0 := wts_zero fun q hq => by
    have hq := he q hq
    obtain ⟨x0, rfl, xr⟩ := wf_int (k := .i64) (by kernel_rfl) hq
    have xr := wf64 xr
    simp
  have hm : maxLen = 9223372036854775807 := rfl
  refine Is.of e78 (Evt.all fun n => ?_)
  by_cases s : x - l.length < 0
  · rw [szR_lt (by simp [hz]; omega)]
    simp (disch := omega) [F78, wrap64, ltT]
  · rw [szR_ge (by simp [hz]; omega)]
    simp (disch := omega) [F78, wrap64, ltF, hz]
theorem wf24 {p : PV} (h : WfT Try.prog 24 p) : ∃ x0 x1 x2 x3, p = .agg [x0, PV.int x1, PV.int x2, PV.int x3] ∧ WfT Try.prog 22 x0 ∧ (-9223372036854775808 ≤ x1 ∧ x1 < 9223372036854775808) ∧ (-9223372036854775808 ≤ x2 ∧ x2 < 9223372036854775808) ∧ (-9223372036854775808 ≤ x3 ∧ x3 < 9223372036854775808) := by
  obtain ⟨l, rfl, hl, hf⟩ := wf_struct Try.underlying24 h
  obtain ⟨y0, y1, y2, y3, rfl⟩ : ∃ y0 y1 y2 y3, l = [y0, y1, y2, y3] := by
    match l, hl with
    | [a0, a1, a2, a3], _ => exact ⟨a0, a1, a2, a3, rfl⟩
  have h0 := hf 0 _ _ rfl rfl
  have h1 := hf 1 _ _ rfl rfl
  obtain ⟨x1, rfl, r1⟩ := wf_int (k := .i64) (by kernel_rfl) h1
  have h2 := hf 2 _ _ rfl rfl
  obtain ⟨x2, rfl, r2⟩ := wf_int (k := .i64) (by kernel_rfl) h2
  have h3 := hf 3 _ _ rfl rfl
  obtain ⟨x3, rfl, r3⟩ := wf_int (k := .i64) (by kernel_rfl) h3
  exact ⟨y0, x1, x2, x3, rfl, h0, wf64 r1, wf64 r2, wf64 r3⟩
theorem mk24 {x0 : PV} {x1 : Int} {x2 : Int} {x3 : Int} (h0 : WfT Try.prog 22 x0) (h1 : (-9223372036854775808 ≤ x1 ∧ x1 < 9223372036854775808)) (h2 : (-9223372036854775808 ≤ x2 ∧ x2 < 9223372036854775808)) (h3 : (-9223372036854775808 ≤ x3 ∧ x3 < 9223372036854775808)) : WfT Try.prog 24 (.agg [x0, PV.int x1, PV.int x2, PV.int x3]) := by
  refine .struct Try.underlying24 rfl fun i f q hf hq => ?_
  match i, hf, hq with
  | 0, hf, hq => obtain rfl := Option.some.inj hf; obtain rfl := Option.some.inj hq; exact h0
  | 1, hf, hq => obtain rfl := Option.some.inj hf; obtain rfl := Option.some.inj hq; exact .int (k := .i64) (by kernel_rfl) (wf_mk64 h1.1 h1.2)
  | 2, hf, hq => obtain rfl := Option.some.inj hf; obtain rfl := Option.some.inj hq; exact .int (k := .i64) (by kernel_rfl) (wf_mk64 h2.1 h2.2)
  | 3, hf, hq => obtain rfl := Option.some.inj hf; obtain rfl := Option.some.inj hq; exact .int (k := .i64) (by kernel_rfl) (wf_mk64 h3.1 h3.2)
  | n + 4, hf, hq => simp at hq
theorem sz_12 {p : PV} (h : WfT Try.prog 24 p) {x : Int} (hx : 0 ≤ x) (hB : x ≤ 1048576) : Rn 12 [p, .int x] [.int (szR x p.wt)] := by
  obtain ⟨x0, x1, x2, x3, rfl, xh0, xh1, xh2, xh3⟩ := wf24 h
  have c0 := sz_78 xh0 (x := x) (by omega) (by omega)
  by_cases s0 : szR (x) x0.wt < 0
  · have q : szR x (PV.agg [x0, PV.int x1, PV.int x2, PV.int x3]).wt = -1 := szR_lt (by have := (szR_neg (w := x0.wt) (x := x) (by omega)).1 s0; simp; omega)
    rw [q]
    exact Is.of e12 ((c0).mp fun n h => by simp [F12, h, ltT s0])
  have g0 : (x0.wt : Int) ≤ x := by have := mt (szR_neg (w := x0.wt) (x := x) (by omega)).2 s0; omega
  have d0 : szR (x) x0.wt = x - x0.wt := szR_ge g0
  rw [d0] at c0 s0
  have q : szR x (PV.agg [x0, PV.int x1, PV.int x2, PV.int x3]).wt = x - x0.wt := by rw [szR_ge (by simp <;> omega)]; simp <;> omega
  rw [q]
  exact Is.of e12 ((c0).mp fun n h => by simp [F12, h, ltF (Int.not_lt.1 s0)])
theorem wf63 {p : PV} (h : WfT Try.prog 63 p) : ∃ x0 x1 x2 x3 x4 x5 x6, p = .agg [x0, x1, x2, x3, x4, PV.int x5, PV.bool x6] ∧ WfT Try.prog 60 x0 ∧ WfT Try.prog 24 x1 ∧ WfT Try.prog 22 x2 ∧ WfT Try.prog 61 x3 ∧ WfT Try.prog 22 x4 ∧ (-9223372036854775808 ≤ x5 ∧ x5 < 9223372036854775808) ∧ True := by
  obtain ⟨l, rfl, hl, hf⟩ := wf_struct Try.underlying63 h
  obtain ⟨y0, y1, y2, y3, y4, y5, y6, rfl⟩ : ∃ y0 y1 y2 y3 y4 y5 y6, l = [y0, y1, y2, y3, y4, y5, y6] := by
    match l, hl with
    | [a0, a1, a2, a3, a4, a5, a6], _ => exact ⟨a0, a1, a2, a3, a4, a5, a6, rfl⟩
  have h0 := hf 0 _ _ rfl rfl
  have h1 := hf 1 _ _ rfl rfl
  have h2 := hf 2 _ _ rfl rfl
  have h3 := hf 3 _ _ rfl rfl
  have h4 := hf 4 _ _ rfl rfl
  have h5 := hf 5 _ _ rfl rfl
  obtain ⟨x5, rfl, r5⟩ := wf_int (k := .i64) (by kernel_rfl) h5
  have h6 := hf 6 _ _ rfl rfl
  obtain ⟨x6, rfl⟩ := wf_bool (by kernel_rfl) h6
  exact ⟨y0, y1, y2, y3, y4, x5, x6, rfl, h0, h1, h2, h3, h4, wf64 r5, trivial⟩
theorem mk63 {x0 : PV} {x1 : PV} {x2 : PV} {x3 : PV} {x4 : PV} {x5 : Int} {x6 : Bool} (h0 : WfT Try.prog 60 x0) (h1 : WfT Try.prog 24 x1) (h2 : WfT Try.prog 22 x2) (h3 : WfT Try.prog 61 x3) (h4 : WfT Try.prog 22 x4) (h5 : (-9223372036854775808 ≤ x5 ∧ x5 < 9223372036854775808)) : WfT Try.prog 63 (.agg [x0, x1, x2, x3, x4, PV.int x5, PV.bool x6]) := by
  refine .struct Try.underlying63 rfl fun i f q hf hq => ?_
  match i, hf, hq with
  | 0, hf, hq => obtain rfl := Option.some.inj hf; obtain rfl := Option.some.inj hq; exact h0
  | 1, hf, hq => obtain rfl := Option.some.inj hf; obtain rfl := Option.some.inj hq; exact h1
  | 2, hf, hq => obtain rfl := Option.some.inj hf; obtain rfl := Option.some.inj hq; exact h2
  | 3, hf, hq => obtain rfl := Option.some.inj hf; obtain rfl := Option.some.inj hq; exact h3
  | 4, hf, hq => obtain rfl := Option.some.inj hf; obtain rfl := Option.some.inj hq; exact h4
  | 5, hf, hq => obtain rfl := Option.some.inj hf; obtain rfl := Option.some.inj hq; exact .int (k := .i64) (by kernel_rfl) (wf_mk64 h5.1 h5.2)
  | 6, hf, hq => obtain rfl := Option.some.inj hf; obtain rfl := Option.some.inj hq; exact .bool (by kernel_rfl)
  | n + 7, hf, hq => simp at hq
theorem sz_45 {p : PV} (h : WfT Try.prog 63 p) {x : Int} (hx : 0 ≤ x) (hB : x ≤ 1048576) : Rn 45 [p, .int x] [.int (szR x p.wt)] := by
  obtain ⟨x0, x1, x2, x3, x4, x5, x6, rfl, xh0, xh1, xh2, xh3, xh4, xh5, xh6⟩ := wf63 h
  have c0 := sz_73 xh0 (x := x) (by omega) (by omega)
  by_cases s0 : szR (x) x0.wt < 0
  · have q : szR x (PV.agg [x0, x1, x2, x3, x4, PV.int x5, PV.bool x6]).wt = -1 := szR_lt (by have := (szR_neg (w := x0.wt) (x := x) (by omega)).1 s0; simp; omega)
    rw [q]
    exact Is.of e45 ((c0).mp fun n h => by simp [F45, h, ltT s0])
  have g0 : (x0.wt : Int) ≤ x := by have := mt (szR_neg (w := x0.wt) (x := x) (by omega)).2 s0; omega
  have d0 : szR (x) x0.wt = x - x0.wt := szR_ge g0
  rw [d0] at c0 s0
  have c1 := sz_12 xh1 (x := x - x0.wt) (by omega) (by omega)
  by_cases s1 : szR (x - x0.wt) x1.wt < 0
  · have q : szR x (PV.agg [x0, x1, x2, x3, x4, PV.int x5, PV.bool x6]).wt = -1 := szR_lt (by have := (szR_neg (w := x1.wt) (x := x - x0.wt) (by omega)).1 s1; simp; omega)
    rw [q]
    exact Is.of e45 ((Evt.and (c0) c1).mp fun n h => by simp [F45, h, ltF (Int.not_lt.1 s0), ltT s1])
  have g1 : (x1.wt : Int) ≤ x - x0.wt := by have := mt (szR_neg (w := x1.wt) (x := x - x0.wt) (by omega)).2 s1; omega
  have d1 : szR (x - x0.wt) x1.wt = x - x0.wt - x1.wt := szR_ge g1
  rw [d1] at c1 s1
  have c2 := sz_78 xh2 (x := x - x0.wt - x1.wt) (by omega) (by omega)
  by_cases s2 : szR (x - x0.wt - x1.wt) x2.wt < 0
  · have q : szR x (PV.agg [x0, x1, x2, x3, x4, PV.int x5, PV.bool x6]).wt = -1 := szR_lt (by have := (szR_neg (w := x2.wt) (x := x - x0.wt - x1.wt) (by omega)).1 s2; simp; omega)
    rw [q]
    exact Is.of e45 ((Evt.and (Evt.and (c0) c1) c2).mp fun n h => by simp [F45, h, ltF (Int.not_lt.1 s0), ltF (Int.not_lt.1 s1), ltT s2])
  have g2 : (x2.wt : Int) ≤ x - x0.wt - x1.wt := by have := mt (szR_neg (w := x2.wt) (x := x - x0.wt - x1.wt) (by omega)).2 s2; omega
  have d2 : szR (x - x0.wt - x1.wt) x2.wt = x - x0.wt - x1.wt - x2.wt := szR_ge g2
  rw [d2] at c2 s2
  have c3 := sz_115 xh3 (x := x - x0.wt - x1.wt - x2.wt) (by omega) (by omega)
  by_cases s3 : szR (x - x0.wt - x1.wt - x2.wt) x3.wt < 0
  · have q : szR x (PV.agg [x0, x1, x2, x3, x4, PV.int x5, PV.bool x6]).wt = -1 := szR_lt (by have := (szR_neg (w := x3.wt) (x := x - x0.wt - x1.wt - x2.wt) (by omega)).1 s3; simp; omega)
    rw [q]
    exact Is.of e45 ((Evt.and (Evt.and (Evt.and (c0) c1) c2) c3).mp fun n h => by simp [F45, h, ltF (Int.not_lt.1 s0), ltF (Int.not_lt.1 s1), ltF (Int.not_lt.1 s2), ltT s3])
  have g3 : (x3.wt : Int) ≤ x - x0.wt - x1.wt - x2.wt := by have := mt (szR_neg (w := x3.wt) (x := x - x0.wt - x1.wt - x2.wt) (by omega)).2 s3; omega
  have d3 : szR (x - x0.wt - x1.wt - x2.wt) x3.wt = x - x0.wt - x1.wt - x2.wt - x3.wt := szR_ge g3
  rw [d3] at c3 s3
  have c4 := sz_78 xh4 (x := x - x0.wt - x1.wt - x2.wt - x3.wt) (by omega) (by omega)
  by_cases s4 : szR (x - x0.wt - x1.wt - x2.wt - x3.wt) x4.wt < 0
  · have q : szR x (PV.agg [x0, x1, x2, x3, x4, PV.int x5, PV.bool x6]).wt = -1 := szR_lt (by have := (szR_neg (w := x4.wt) (x := x - x0.wt - x1.wt - x2.wt - x3.wt) (by omega)).1 s4; simp; omega)
    rw [q]
    exact Is.of e45 ((Evt.and (Evt.and (Evt.and (Evt.and (c0) c1) c2) c3) c4).mp fun n h => by simp [F45, h, ltF (Int.not_lt.1 s0), ltF (Int.not_lt.1 s1), ltF (Int.not_lt.1 s2), ltF (Int.not_lt.1 s3), ltT s4])
  have g4 : (x4.wt : Int) ≤ x - x0.wt - x1.wt - x2.wt - x3.wt := by have := mt (szR_neg (w := x4.wt) (x := x - x0.wt - x1.wt - x2.wt - x3.wt) (by omega)).2 s4; omega
  have d4 : szR (x - x0.wt - x1.wt - x2.wt - x3.wt) x4.wt = x - x0.wt - x1.wt - x2.wt - x3.wt - x4.wt := szR_ge g4
  rw [d4] at c4 s4
  have q : szR x (PV.agg [x0, x1, x2, x3, x4, PV.int x5, PV.bool x6]).wt = x - x0.wt - x1.wt - x2.wt - x3.wt - x4.wt := by rw [szR_ge (by simp <;> omega)]; simp <;> omega
  rw [q]
  exact Is.of e45 ((Evt.and (Evt.and (Evt.and (Evt.and (c0) c1) c2) c3) c4).mp fun n h => by simp [F45, h, ltF (Int.not_lt.1 s0), ltF (Int.not_lt.1 s1), ltF (Int.not_lt.1 s2), ltF (Int.not_lt.1 s3), ltF (Int.not_lt.1 s4)])
theorem to_170 {p : PV} (h : WfT Try.prog 198 p) (hw : p.wt ≤ 1048576) : Rn 170 [p] [p] := by
  obtain ⟨x0, x1, x2, rfl, xh0, xh1, xh2⟩ := wf198 h
  simp at hw
  exact Is.of e170 (Evt.all fun n => by simp [F170])
theorem to_118 {p : PV} (h : WfT Try.prog 61 p) (hw : p.wt ≤ 1048576) : Rn 118 [p] [p] := by
  obtain ⟨l, rfl, hl, he⟩ := wf_slice (e := 198) (by kernel_rfl) h
  simp at hw
  refine Is.of e118 ?_
  have hloop := loop_run (body := fun n => L118_0 (ev Try.prog sg n) n) (e := .x 0) (res := [.list l]) (fun i => [.int i, .list l, .list (l.take i ++ List.replicate (l.length - i) (PV.agg [(PV.int (0 : Int)), (PV.int (0 : Int)), (PV.int (0 : Int))]))]) l.length (fun i hi => ?_) (Evt.all fun n => ?_) (by simp)
  · refine hloop.mp fun n h => ?_
    simp at h
    simp (disch := omega) [F118, leT, geT, h]
  · have hm := nth_mem hi
    refine (to_170 (he _ hm) (by have := wt_mem hm; omega)).mp fun n h => ?_
    simp (disch := omega) [L118_0, ltT, geT, wrap64, h, fill_set, hi]
  · simp (disch := omega) [L118_0, ltF]
theorem to_217 {p : PV} (h : WfT Try.prog 243 p) (hw : p.wt ≤ 1048576) : Rn 217 [p] [p] := by
  obtain ⟨x0, x1, x2, rfl, xh0, xh1, xh2⟩ := wf243 h
  simp at hw
  exact Is.of e217 (Evt.all fun n => by simp [F217])
theorem to_189 {p : PV} (h : WfT Try.prog 174 p) (hw : p.wt ≤ 1048576) : Rn 189 [p] [p] := by
  obtain ⟨l, rfl, hl, he⟩ := wf_slice (e := 243) (by kernel_rfl) h
  simp at hw
  refine Is.of e189 ?_
  have hloop := loop_run (body := fun n => L189_0 (ev Try.prog sg n) n) (e := .x 0) (res := [.list l]) (fun i => [.int i, .list l, .list (l.take i ++ List.replicate (l.length - i) (PV.agg [(PV.int (0 : Int)), (PV.int (0 : Int)), (PV.int (0 : Int))]))]) l.length (fun i hi => ?_) (Evt.all fun n => ?_) (by simp)
  · refine hloop.mp fun n h => ?_
    simp at h
    simp (disch := omega) [F189, leT, geT, h]
  · have hm := nth_mem hi
    refine (to_217 (he _ hm) (by have := wt_mem hm; omega)).mp fun n h => ?_
    simp (disch := omega) [L189_0, ltT, geT, wrap64, h, fill_set, hi]
  · simp (disch := omega) [L189_0, ltF]
theorem to_152 {p : PV} (h : WfT Try.prog 176 p) (hw : p.wt ≤ 1048576) : Rn 152 [p] [p] := by
  obtain ⟨x0, x1, rfl, xh0, xh1⟩ := wf176 h
  simp at hw
  have c0 := to_189 xh1 (by omega)
  exact Is.of e152 ((c0).mp fun n h => by simp [F152, h])
theorem to_75 {p : PV} (h : WfT Try.prog 60 p) (hw : p.wt ≤ 1048576) : Rn 75 [p] [p] := by
  obtain ⟨l, rfl, hl, he⟩ := wf_slice (e := 176) (by kernel_rfl) h
  simp at hw
  refine Is.of e75 ?_
  have hloop := loop_run (body := fun n => L75_0 (ev Try.prog sg n) n) (e := .x 0) (res := [.list l]) (fun i => [.int i, .list l, .list (l.take i ++ List.replicate (l.length - i) (PV.agg [(PV.int (0 : Int)), (PV.list ([] : List PV))]))]) l.length (fun i hi => ?_) (Evt.all fun n => ?_) (by simp)
  · refine hloop.mp fun n h => ?_
    simp at h
    simp (disch := omega) [F75, leT, geT, h]
  · have hm := nth_mem hi
    refine (to_152 (he _ hm) (by have := wt_mem hm; omega)).mp fun n h => ?_
    simp (disch := omega) [L75_0, ltT, geT, wrap64, h, fill_set, hi]
  · simp (disch := omega) [L75_0, ltF]
theorem to_22 {p : PV} (h : WfT Try.prog 22 p) (hw : p.wt ≤ 1048576) : Rn 22 [p] [p] := by
  obtain ⟨l, rfl, hl, he⟩ := wf_slice (e := 3) (by kernel_rfl) h
  simp at hw
  refine Is.of e22 ?_
  have hloop := loop_run (body := fun n => L22_0 (ev Try.prog sg n) n) (e := .x 0) (res := [.list l]) (fun i => [.int i, .list l, .list (l.take i ++ List.replicate (l.length - i) (PV.int (0 : Int)))]) l.length (fun i hi => ?_) (Evt.all fun n => ?_) (by simp)
  · refine hloop.mp fun n h => ?_
    simp at h
    simp (disch := omega) [F22, leT, geT, h]
  · refine Evt.all fun n => ?_
    simp (disch := omega) [L22_0, ltT, geT, wrap64, fill_set, hi]
  · simp (disch := omega) [L22_0, ltF]
theorem to_14 {p : PV} (h : WfT Try.prog 24 p) (hw : p.wt ≤ 1048576) : Rn 14 [p] [p] := by
  obtain ⟨x0, x1, x2, x3, rfl, xh0, xh1, xh2, xh3⟩ := wf24 h
  simp at hw
  have c0 := to_22 xh0 (by omega)
  exact Is.of e14 ((c0).mp fun n h => by simp [F14, h])
theorem to_47 {p : PV} (h : WfT Try.prog 63 p) (hw : p.wt ≤ 1048576) : Rn 47 [p] [p] := by
  obtain ⟨x0, x1, x2, x3, x4, x5, x6, rfl, xh0, xh1, xh2, xh3, xh4, xh5, xh6⟩ := wf63 h
  simp at hw
  have c0 := to_75 xh0 (by omega)
  have c1 := to_14 xh1 (by omega)
  have c2 := to_22 xh2 (by omega)
  have c3 := to_118 xh3 (by omega)
  have c4 := to_22 xh4 (by omega)
  exact Is.of e47 ((Evt.and (Evt.and (Evt.and (Evt.and (c0) c1) c2) c3) c4).mp fun n h => by simp [F47, h])
theorem eq_172 {p : PV} (h : WfT Try.prog 198 p) : Rn 172 [p, p] [.bool true] := by
  obtain ⟨x0, x1, x2, rfl, xh0, xh1, xh2⟩ := wf198 h
  exact Is.of e172 (Evt.all fun n => by simp [F172, neF])
theorem eq_121 {p : PV} (h : WfT Try.prog 61 p) : Rn 121 [p, p] [.bool true] := by
  obtain ⟨l, rfl, hl, he⟩ := wf_slice (e := 198) (by kernel_rfl) h
  have hm : maxLen = 9223372036854775807 := rfl
  have hloop := loop_run (body := fun n => L121_0 (ev Try.prog sg n) n) (e := .x 0) (res := []) (fun i => [.int i, .list l, .list l]) l.length (fun i hi => ?_) (Evt.all fun n => ?_) (by simp)
  · refine Is.of e121 (hloop.mp fun n h => ?_)
    simp at h
    simp (disch := omega) [F121, neF, h]
  · refine (eq_172 (he _ (nth_mem hi))).mp fun n h => ?_
    simp (disch := omega) [L121_0, ltT, geT, wrap64, h]
  · simp (disch := omega) [L121_0, ltF]
theorem eq_213 {p : PV} (h : WfT Try.prog 243 p) : Rn 213 [p, p] [.bool true] := by
  obtain ⟨x0, x1, x2, rfl, xh0, xh1, xh2⟩ := wf243 h
  exact Is.of e213 (Evt.all fun n => by simp [F213, neF])
theorem eq_185 {p : PV} (h : WfT Try.prog 174 p) : Rn 185 [p, p] [.bool true] := by
  obtain ⟨l, rfl, hl, he⟩ := wf_slice (e := 243) (by kernel_rfl) h
  have hm : maxLen = 9223372036854775807 := rfl
  have hloop := loop_run (body := fun n => L185_0 (ev Try.prog sg n) n) (e := .x 0) (res := []) (fun i => [.int i, .list l, .list l]) l.length (fun i hi => ?_) (Evt.all fun n => ?_) (by simp)
  · refine Is.of e185 (hloop.mp fun n h => ?_)
    simp at h
    simp (disch := omega) [F185, neF, h]
  · refine (eq_213 (he _ (nth_mem hi))).mp fun n h => ?_
    simp (disch := omega) [L185_0, ltT, geT, wrap64, h]
  · simp (disch := omega) [L185_0, ltF]
theorem eq_142 {p : PV} (h : WfT Try.prog 176 p) : Rn 142 [p, p] [.bool true] := by
  obtain ⟨x0, x1, rfl, xh0, xh1⟩ := wf176 h
  have c0 := eq_185 xh1
  exact Is.of e142 ((c0).mp fun n h => by simp [F142, neF, h])
theorem eq_66 {p : PV} (h : WfT Try.prog 60 p) : Rn 66 [p, p] [.bool true] := by
  obtain ⟨l, rfl, hl, he⟩ := wf_slice (e := 176) (by kernel_rfl) h
  have hm : maxLen = 9223372036854775807 := rfl
  have hloop := loop_run (body := fun n => L66_0 (ev Try.prog sg n) n) (e := .x 0) (res := []) (fun i => [.int i, .list l, .list l]) l.length (fun i hi => ?_) (Evt.all fun n => ?_) (by simp)
  · refine Is.of e66 (hloop.mp fun n h => ?_)
    simp at h
    simp (disch := omega) [F66, neF, h]
  · refine (eq_142 (he _ (nth_mem hi))).mp fun n h => ?_
    simp (disch := omega) [L66_0, ltT, geT, wrap64, h]
  · simp (disch := omega) [L66_0, ltF]
theorem eq_24 {p : PV} (h : WfT Try.prog 22 p) : Rn 24 [p, p] [.bool true] := by
  obtain ⟨l, rfl, hl, he⟩ := wf_slice (e := 3) (by kernel_rfl) h
  have hm : maxLen = 9223372036854775807 := rfl
  have hloop := loop_run (body := fun n => L24_0 (ev Try.prog sg n) n) (e := .x 0) (res := []) (fun i => [.int i, .list l, .list l]) l.length (fun i hi => ?_) (Evt.all fun n => ?_) (by simp)
  · refine Is.of e24 (hloop.mp fun n h => ?_)
    simp at h
    simp (disch := omega) [F24, neF, h]
  · refine Evt.all fun n => ?_
    simp (disch := omega) [L24_0, ltT, geT, wrap64, neF]
  · simp (disch := omega) [L24_0, ltF]
theorem eq_17 {p : PV} (h : WfT Try.prog 24 p) : Rn 17 [p, p] [.bool true] := by
  obtain ⟨x0, x1, x2, x3, rfl, xh0, xh1, xh2, xh3⟩ := wf24 h
  have c0 := eq_24 xh0
  exact Is.of e17 ((c0).mp fun n h => by simp [F17, neF, h])
theorem wf28 {p : PV} (h : WfT Try.prog 28 p) : ∃ x0 x1 x2, p = .agg [PV.int x0, PV.int x1, x2] ∧ (-9223372036854775808 ≤ x0 ∧ x0 < 9223372036854775808) ∧ (-9223372036854775808 ≤ x1 ∧ x1 < 9223372036854775808) ∧ WfT Try.prog 26 x2 := by
  obtain ⟨l, rfl, hl, hf⟩ := wf_struct Try.underlying28 h
  obtain ⟨y0, y1, y2, rfl⟩ : ∃ y0 y1 y2, l = [y0, y1, y2] := by
    match l, hl with
    | [a0, a1, a2], _ => exact ⟨a0, a1, a2, rfl⟩
  have h0 := hf 0 _ _ rfl rfl
  obtain ⟨x0, rfl, r0⟩ := wf_int (k := .i64) (by kernel_rfl) h0
  have h1 := hf 1 _ _ rfl rfl
  obtain ⟨x1, rfl, r1⟩ := wf_int (k := .i64) (by kernel_rfl) h1
  have h2 := hf 2 _ _ rfl rfl
  exact ⟨x0, x1, y2, rfl, wf64 r0, wf64 r1, h2⟩
theorem mk28 {x0 : Int} {x1 : Int} {x2 : PV} (h0 : (-9223372036854775808 ≤ x0 ∧ x0 < 9223372036854775808)) (h1 : (-9223372036854775808 ≤ x1 ∧ x1 < 9223372036854775808)) (h2 : WfT Try.prog 26 x2) : WfT Try.prog 28 (.agg [PV.int x0, PV.int x1, x2]) := by
  refine .struct Try.underlying28 rfl fun i f q hf hq => ?_
  match i, hf, hq with
  | 0, hf, hq => obtain rfl := Option.some.inj hf; obtain rfl := Option.some.inj hq; exact .int (k := .i64) (by kernel_rfl) (wf_mk64 h0.1 h0.2)
  | 1, hf, hq => obtain rfl := Option.some.inj hf; obtain rfl := Option.some.inj hq; exact .int (k := .i64) (by kernel_rfl) (wf_mk64 h1.1 h1.2)
  | 2, hf, hq => obtain rfl := Option.some.inj hf; obtain rfl := Option.some.inj hq; exact h2
  | n + 3, hf, hq => simp at hq
theorem eq_16_of {p : PV} (h : WfT Try.prog 28 p) (IH : ∀ q, SizeOf.sizeOf q < SizeOf.sizeOf p → WfT Try.prog 26 q → Rn 82 [q, q] [.bool true]) : Rn 16 [p, p] [.bool true] := by
  obtain ⟨x0, x1, x2, rfl, xh0, xh1, xh2⟩ := wf28 h
  have c0 := IH _ (by simp <;> omega) xh2
  exact Is.of e16 ((c0).mp fun n h => by simp [F16, neF, h])
theorem eq_82_aux : ∀ (N : Nat) (p : PV), SizeOf.sizeOf p = N → WfT Try.prog 26 p → Rn 82 [p, p] [.bool true] := by
  intro N
  induction N using Nat.strongRecOn with
  | ind N ih =>
  intro p hN h 
  obtain ⟨l, rfl, hl, he⟩ := wf_slice (e := 28) (by kernel_rfl) h
  have hm : maxLen = 9223372036854775807 := rfl
  have hloop := loop_run (body := fun n => L82_0 (ev Try.prog sg n) n) (e := .x 0) (res := []) (fun i => [.int i, .list l, .list l]) l.length (fun i hi => ?_) (Evt.all fun n => ?_) (by simp)
  · refine Is.of e82 (hloop.mp fun n h => ?_)
    simp at h
    simp (disch := omega) [F82, neF, h]
  · refine (eq_16_of (he _ (nth_mem hi)) (fun q hq hw => ih (SizeOf.sizeOf q) (by have := size_mem (nth_mem hi); omega) q rfl hw)).mp fun n h => ?_
    simp (disch := omega) [L82_0, ltT, geT, wrap64, h]
  · simp (disch := omega) [L82_0, ltF]
theorem eq_82 {p : PV} (h : WfT Try.prog 26 p) : Rn 82 [p, p] [.bool true] := by
  exact eq_82_aux _ _ rfl h 
theorem eq_16 {p : PV} (h : WfT Try.prog 28 p) : Rn 16 [p, p] [.bool true] := by
  exact eq_16_of h (fun q _ hw => eq_82 hw) 
theorem eq_49 {p : PV} (h : WfT Try.prog 63 p) : Rn 49 [p, p] [.bool true] := by
  obtain ⟨x0, x1, x2, x3, x4, x5, x6, rfl, xh0, xh1, xh2, xh3, xh4, xh5, xh6⟩ := wf63 h
  have c0 := eq_66 xh0
  have c1 := eq_17 xh1
  have c2 := eq_24 xh2
  have c3 := eq_121 xh3
  have c4 := eq_24 xh4
  exact Is.of e49 ((Evt.and (Evt.and (Evt.and (Evt.and (c0) c1) c2) c3) c4).mp fun n h => by simp [F49, neF, h])
def gd198 (k : Int) (p q : PV) : Prop := q = PV.agg [PV.int (k), PV.int (k + (nth p.toAgg 0).cn), PV.int (k + (nth p.toAgg 0).cn + (nth p.toAgg 1).cn)]
theorem cn_61 {p : PV} (h : WfT Try.prog 61 p) : p.cn ≤ 64 * p.wt := by
  obtain ⟨l, rfl, hl, he⟩ := wf_slice (e := 198) (by kernel_rfl) h
  have h1 := cns_le (S := 64) (l := l) fun q hxm => by
    have hx := he q hxm
    obtain ⟨x0, x1, x2, rfl, xh0, xh1, xh2⟩ := wf198 hx
    simp only [cn_agg, cns_cons, cns_nil, wt_agg, wts_cons, wts_nil, cn_int, wt_int, cn_bool, wt_bool, cn_str, wt_str]
    omega
  simp only [cn_list, wt_list]
  omega
theorem mark_133 {p : PV} (h : WfT Try.prog 61 p) {k : Int} (hk : 0 ≤ k) (hB : k + p.cn ≤ 1099511627776) : ∃ m, Goods gd198 k p.toList m ∧ Rn 133 [p, .int k] [.int (k + p.cn), .list m] := by
  obtain ⟨l, rfl, hl, he⟩ := wf_slice (e := 198) (by kernel_rfl) h
  have hm : maxLen = 9223372036854775807 := rfl
  simp only [cn_list] at hB
  have key := mark_loop (body := fun n => L133_0 (ev Try.prog sg n) n) (pay := fun i k m => [.int i, .int k, .list m]) (res := fun k m => [.list m, .int k]) (good := gd198) (B := 1099511627776) (l := l) (fun d r x k hxm hlen h1 h2 => ?_) (fun k m hlen => Evt.all fun n => ?_) k hk hB
  · obtain ⟨m, hg, hloop⟩ := key
    refine ⟨m, hg, Is.of e133 (hloop.mp fun n h => ?_)⟩
    simp at h
    simp [F133, h]
  · have hx := he x hxm
    obtain ⟨x0, x1, x2, rfl, xh0, xh1, xh2⟩ := wf198 hx
    simp at hlen h2
    refine ⟨_, rfl, Evt.all fun n => ?_⟩
    simp (disch := omega) [L133_0, ltT, geT, wrap64, nth_mid, set_mid]
    try omega
  · simp (disch := omega) [L133_0, ltF, hlen]
theorem mark_4229 {p : PV} (h : WfT Try.prog 61 p) {k : Int} (hk : 0 ≤ k) (hB : k + p.cn ≤ 1099511627776) : ∃ m, Goods gd198 k p.toList m ∧ Rn 4229 [p, .int k] [.int (k + p.cn)] := by
  obtain ⟨l, rfl, hl, he⟩ := wf_slice (e := 198) (by kernel_rfl) h
  have hm : maxLen = 9223372036854775807 := rfl
  simp only [cn_list] at hB
  have key := mark_loop (body := fun n => L4229_0 (ev Try.prog sg n) n) (pay := fun i k m => [.int i, .list m, .int k]) (res := fun k m => [.int k]) (good := gd198) (B := 1099511627776) (l := l) (fun d r x k hxm hlen h1 h2 => ?_) (fun k m hlen => Evt.all fun n => ?_) k hk hB
  · obtain ⟨m, hg, hloop⟩ := key
    refine ⟨m, hg, Is.of e4229 (hloop.mp fun n h => ?_)⟩
    simp at h
    simp [F4229, h]
  · have hx := he x hxm
    obtain ⟨x0, x1, x2, rfl, xh0, xh1, xh2⟩ := wf198 hx
    simp at hlen h2
    refine ⟨_, rfl, Evt.all fun n => ?_⟩
    simp (disch := omega) [L4229_0, ltT, geT, wrap64, nth_mid, set_mid]
    try omega
  · simp (disch := omega) [L4229_0, ltF, hlen]
def gd243 (k : Int) (p q : PV) : Prop := q = PV.agg [PV.int (k), PV.int (k + (nth p.toAgg 0).cn), PV.int (k + (nth p.toAgg 0).cn + (nth p.toAgg 1).cn)]
theorem cn_174 {p : PV} (h : WfT Try.prog 174 p) : p.cn ≤ 64 * p.wt := by
  obtain ⟨l, rfl, hl, he⟩ := wf_slice (e := 243) (by kernel_rfl) h
  have h1 := cns_le (S := 64) (l := l) fun q hxm => by
    have hx := he q hxm
    obtain ⟨x0, x1, x2, rfl, xh0, xh1, xh2⟩ := wf243 hx
    simp only [cn_agg, cns_cons, cns_nil, wt_agg, wts_cons, wts_nil, cn_int, wt_int, cn_bool, wt_bool, cn_str, wt_str]
    omega
  simp only [cn_list, wt_list]
  omega
theorem mark_145 {p : PV} (h : WfT Try.prog 174 p) {k : Int} (hk : 0 ≤ k) (hB : k + p.cn ≤ 1099511627776) : ∃ m, Goods gd243 k p.toList m ∧ Rn 145 [p, .int k] [.int (k + p.cn), .list m] := by
  obtain ⟨l, rfl, hl, he⟩ := wf_slice (e := 243) (by kernel_rfl) h
  have hm : maxLen = 9223372036854775807 := rfl
  simp only [cn_list] at hB
  have key := mark_loop (body := fun n => L145_0 (ev Try.prog sg n) n) (pay := fun i k m => [.int i, .int k, .list m]) (res := fun k m => [.list m, .int k]) (good := gd243) (B := 1099511627776) (l := l) (fun d r x k hxm hlen h1 h2 => ?_) (fun k m hlen => Evt.all fun n => ?_) k hk hB
  · obtain ⟨m, hg, hloop⟩ := key
    refine ⟨m, hg, Is.of e145 (hloop.mp fun n h => ?_)⟩
    simp at h
    simp [F145, h]
  · have hx := he x hxm
    obtain ⟨x0, x1, x2, rfl, xh0, xh1, xh2⟩ := wf243 hx
    simp at hlen h2
    refine ⟨_, rfl, Evt.all fun n => ?_⟩
    simp (disch := omega) [L145_0, ltT, geT, wrap64, nth_mid, set_mid]
    try omega
  · simp (disch := omega) [L145_0, ltF, hlen]
def gd176 (k : Int) (p q : PV) : Prop := ∃ y0, q = PV.agg [PV.int (k), PV.list y0] ∧ Goods gd243 (k + (nth p.toAgg 0).cn) (nth p.toAgg 1).toList y0
theorem cn_60 {p : PV} (h : WfT Try.prog 60 p) : p.cn ≤ 64 * p.wt := by
  obtain ⟨l, rfl, hl, he⟩ := wf_slice (e := 176) (by kernel_rfl) h
  have h1 := cns_le (S := 64) (l := l) fun q hxm => by
    have hx := he q hxm
    obtain ⟨x0, x1, rfl, xh0, xh1⟩ := wf176 hx
    have c1 := cn_174 xh1
    simp only [cn_agg, cns_cons, cns_nil, wt_agg, wts_cons, wts_nil, cn_int, wt_int, cn_bool, wt_bool, cn_str, wt_str]
    omega
  simp only [cn_list, wt_list]
  omega
theorem mark_69 {p : PV} (h : WfT Try.prog 60 p) {k : Int} (hk : 0 ≤ k) (hB : k + p.cn ≤ 1099511627776) : ∃ m, Goods gd176 k p.toList m ∧ Rn 69 [p, .int k] [.int (k + p.cn), .list m] := by
  obtain ⟨l, rfl, hl, he⟩ := wf_slice (e := 176) (by kernel_rfl) h
  have hm : maxLen = 9223372036854775807 := rfl
  simp only [cn_list] at hB
  have key := mark_loop (body := fun n => L69_0 (ev Try.prog sg n) n) (pay := fun i k m => [.int i, .int k, .list m]) (res := fun k m => [.list m, .int k]) (good := gd176) (B := 1099511627776) (l := l) (fun d r x k hxm hlen h1 h2 => ?_) (fun k m hlen => Evt.all fun n => ?_) k hk hB
  · obtain ⟨m, hg, hloop⟩ := key
    refine ⟨m, hg, Is.of e69 (hloop.mp fun n h => ?_)⟩
    simp at h
    simp [F69, h]
  · have hx := he x hxm
    obtain ⟨x0, x1, rfl, xh0, xh1⟩ := wf176 hx
    obtain ⟨l1, rfl, hl1, he1⟩ := wf_slice (e := 243) (by kernel_rfl) xh1
    simp at hlen h2
    obtain ⟨y1, g1, c0⟩ := mark_145 xh1 (k := k + 1) (by omega) (by simp; omega)
    refine ⟨_, ⟨y1, rfl, by simpa using g1⟩, (c0).mp fun n h => ?_⟩
    simp at h
    simp (disch := omega) [L69_0, ltT, geT, wrap64, nth_mid, set_mid, h]
    try omega
  · simp (disch := omega) [L69_0, ltF, hlen]
theorem mark_4165 {p : PV} (h : WfT Try.prog 60 p) {k : Int} (hk : 0 ≤ k) (hB : k + p.cn ≤ 1099511627776) : ∃ m, Goods gd176 k p.toList m ∧ Rn 4165 [p, .int k] [.int (k + p.cn)] := by
  obtain ⟨l, rfl, hl, he⟩ := wf_slice (e := 176) (by kernel_rfl) h
  have hm : maxLen = 9223372036854775807 := rfl
  simp only [cn_list] at hB
  have key := mark_loop (body := fun n => L4165_0 (ev Try.prog sg n) n) (pay := fun i k m => [.int i, .list m, .int k]) (res := fun k m => [.int k]) (good := gd176) (B := 1099511627776) (l := l) (fun d r x k hxm hlen h1 h2 => ?_) (fun k m hlen => Evt.all fun n => ?_) k hk hB
  · obtain ⟨m, hg, hloop⟩ := key
    refine ⟨m, hg, Is.of e4165 (hloop.mp fun n h => ?_)⟩
    simp at h
    simp [F4165, h]
  · have hx := he x hxm
    obtain ⟨x0, x1, rfl, xh0, xh1⟩ := wf176 hx
    obtain ⟨l1, rfl, hl1, he1⟩ := wf_slice (e := 243) (by kernel_rfl) xh1
    simp at hlen h2
    obtain ⟨y1, g1, c0⟩ := mark_145 xh1 (k := k + 1) (by omega) (by simp; omega)
    refine ⟨_, ⟨y1, rfl, by simpa using g1⟩, (c0).mp fun n h => ?_⟩
    simp at h
    simp (disch := omega) [L4165_0, ltT, geT, wrap64, nth_mid, set_mid, h]
    try omega
  · simp (disch := omega) [L4165_0, ltF, hlen]
def gd3 (k : Int) (p q : PV) : Prop := q = PV.int (k)
theorem cn_22 {p : PV} (h : WfT Try.prog 22 p) : p.cn ≤ 64 * p.wt := by
  obtain ⟨l, rfl, hl, he⟩ := wf_slice (e := 3) (by kernel_rfl) h
  have h1 := cns_le (S := 64) (l := l) fun q hxm => by
    have hx := he q hxm
    obtain ⟨x0, rfl, xr⟩ := wf_int (k := .i64) (by kernel_rfl) hx
    have xr := wf64 xr
    simp only [cn_agg, cns_cons, cns_nil, wt_agg, wts_cons, wts_nil, cn_int, wt_int, cn_bool, wt_bool, cn_str, wt_str]
    omega
  simp only [cn_list, wt_list]
  omega
theorem mark_25 {p : PV} (h : WfT Try.prog 22 p) {k : Int} (hk : 0 ≤ k) (hB : k + p.cn ≤ 1099511627776) : ∃ m, Goods gd3 k p.toList m ∧ Rn 25 [p, .int k] [.int (k + p.cn), .list m] := by
  obtain ⟨l, rfl, hl, he⟩ := wf_slice (e := 3) (by kernel_rfl) h
  have hm : maxLen = 9223372036854775807 := rfl
  simp only [cn_list] at hB
  have key := mark_loop (body := fun n => L25_0 (ev Try.prog sg n) n) (pay := fun i k m => [.int i, .int k, .list m]) (res := fun k m => [.list m, .int k]) (good := gd3) (B := 1099511627776) (l := l) (fun d r x k hxm hlen h1 h2 => ?_) (fun k m hlen => Evt.all fun n => ?_) k hk hB
  · obtain ⟨m, hg, hloop⟩ := key
    refine ⟨m, hg, Is.of e25 (hloop.mp fun n h => ?_)⟩
    simp at h
    simp [F25, h]
  · have hx := he x hxm
    obtain ⟨x0, rfl, xr⟩ := wf_int (k := .i64) (by kernel_rfl) hx
    have xr := wf64 xr
    simp at hlen h2
    refine ⟨_, rfl, Evt.all fun n => ?_⟩
    simp (disch := omega) [L25_0, ltT, geT, wrap64, nth_mid, set_mid]
    try omega
  · simp (disch := omega) [L25_0, ltF, hlen]
def sn24 (p : PV) : Nat := (nth p.toAgg 0).cn
def gs24 (k : Int) (p q : PV) : Prop := ∃ (y0 : List PV), q = .agg [.list y0, (nth p.toAgg 1), (nth p.toAgg 2), (nth p.toAgg 3)] ∧ Goods gd3 (k) (nth p.toAgg 0).toList y0
theorem sn24_le {p : PV} (h : WfT Try.prog 24 p) : sn24 p ≤ 64 * p.wt := by
  obtain ⟨x0, x1, x2, x3, rfl, xh0, xh1, xh2, xh3⟩ := wf24 h
  have c0 := cn_22 xh0
  simp [sn24]
  omega
theorem mark_18 {p : PV} (h : WfT Try.prog 24 p) {k : Int} (hk : 0 ≤ k) (hB : k + sn24 p ≤ 1099511627776) : ∃ q, gs24 k p q ∧ Rn 18 [p, .int k] [.int (k + sn24 p), q] := by
  obtain ⟨x0, x1, x2, x3, rfl, xh0, xh1, xh2, xh3⟩ := wf24 h
  simp [sn24] at hB
  obtain ⟨y0, g0, c0⟩ := mark_25 xh0 (k := k) (by omega) (by omega)
  refine ⟨_, ⟨y0, rfl, by simpa using g0⟩, Is.of e18 ((c0).mp fun n h => ?_)⟩
  simp [F18, h, sn24]
  try omega
theorem mark_4114 {p : PV} (h : WfT Try.prog 24 p) {k : Int} (hk : 0 ≤ k) (hB : k + sn24 p ≤ 1099511627776) : ∃ q, gs24 k p q ∧ Rn 4114 [p, .int k] [.int (k + sn24 p)] := by
  obtain ⟨x0, x1, x2, x3, rfl, xh0, xh1, xh2, xh3⟩ := wf24 h
  simp [sn24] at hB
  obtain ⟨y0, g0, c0⟩ := mark_25 xh0 (k := k) (by omega) (by omega)
  refine ⟨_, ⟨y0, rfl, by simpa using g0⟩, Is.of e4114 ((c0).mp fun n h => ?_)⟩
  simp [F4114, h, sn24]
  try omega
theorem mark_4121 {p : PV} (h : WfT Try.prog 22 p) {k : Int} (hk : 0 ≤ k) (hB : k + p.cn ≤ 1099511627776) : ∃ m, Goods gd3 k p.toList m ∧ Rn 4121 [p, .int k] [.int (k + p.cn)] := by
  obtain ⟨l, rfl, hl, he⟩ := wf_slice (e := 3) (by kernel_rfl) h
  have hm : maxLen = 9223372036854775807 := rfl
  simp only [cn_list] at hB
  have key := mark_loop (body := fun n => L4121_0 (ev Try.prog sg n) n) (pay := fun i k m => [.int i, .list m, .int k]) (res := fun k m => [.int k]) (good := gd3) (B := 1099511627776) (l := l) (fun d r x k hxm hlen h1 h2 => ?_) (fun k m hlen => Evt.all fun n => ?_) k hk hB
  · obtain ⟨m, hg, hloop⟩ := key
    refine ⟨m, hg, Is.of e4121 (hloop.mp fun n h => ?_)⟩
    simp at h
    simp [F4121, h]
  · have hx := he x hxm
    obtain ⟨x0, rfl, xr⟩ := wf_int (k := .i64) (by kernel_rfl) hx
    have xr := wf64 xr
    simp at hlen h2
    refine ⟨_, rfl, Evt.all fun n => ?_⟩
    simp (disch := omega) [L4121_0, ltT, geT, wrap64, nth_mid, set_mid]
    try omega
  · simp (disch := omega) [L4121_0, ltF, hlen]
theorem mark_4241 {p : PV} (h : WfT Try.prog 174 p) {k : Int} (hk : 0 ≤ k) (hB : k + p.cn ≤ 1099511627776) : ∃ m, Goods gd243 k p.toList m ∧ Rn 4241 [p, .int k] [.int (k + p.cn)] := by
  obtain ⟨l, rfl, hl, he⟩ := wf_slice (e := 243) (by kernel_rfl) h
  have hm : maxLen = 9223372036854775807 := rfl
  simp only [cn_list] at hB
  have key := mark_loop (body := fun n => L4241_0 (ev Try.prog sg n) n) (pay := fun i k m => [.int i, .list m, .int k]) (res := fun k m => [.int k]) (good := gd243) (B := 1099511627776) (l := l) (fun d r x k hxm hlen h1 h2 => ?_) (fun k m hlen => Evt.all fun n => ?_) k hk hB
  · obtain ⟨m, hg, hloop⟩ := key
    refine ⟨m, hg, Is.of e4241 (hloop.mp fun n h => ?_)⟩
    simp at h
    simp [F4241, h]
  · have hx := he x hxm
    obtain ⟨x0, x1, x2, rfl, xh0, xh1, xh2⟩ := wf243 hx
    simp at hlen h2
    refine ⟨_, rfl, Evt.all fun n => ?_⟩
    simp (disch := omega) [L4241_0, ltT, geT, wrap64, nth_mid, set_mid]
    try omega
  · simp (disch := omega) [L4241_0, ltF, hlen]
mutual
inductive Gd28 : Int → PV → PV → Prop
  | mk {k : Int} {p : PV} {y0 : List PV} : (h0 : Gd28L (k + (nth p.toAgg 0).cn + (nth p.toAgg 1).cn) (nth p.toAgg 2).toList y0) → Gd28 k p (PV.agg [PV.int (k), PV.int (k + (nth p.toAgg 0).cn), PV.list y0])
inductive Gd28L : Int → List PV → List PV → Prop
  | nil {k : Int} : Gd28L k [] []
  | cons {k : Int} {x y : PV} {l m : List PV} : Gd28 k x y → Gd28L (k + x.cn) l m → Gd28L k (x :: l) (y :: m)
end
def gd28 (k : Int) (p q : PV) : Prop := Gd28 k p q
theorem Gd28L_of : ∀ {k : Int} {l m : List PV}, Goods gd28 k l m → Gd28L k l m
  | _, [], [], _ => .nil
  | _, _ :: _, _ :: _, h => .cons h.1 (Gd28L_of h.2)
  | _, [], _ :: _, h => h.elim
  | _, _ :: _, [], h => h.elim
theorem Gd28L_to : ∀ {k : Int} {l m : List PV}, Gd28L k l m → Goods gd28 k l m
  | _, [], [], _ => trivial
  | _, _ :: _, _ :: _, .cons h1 h2 => ⟨h1, Gd28L_to h2⟩
theorem gd28_out {k : Int} {p q : PV} (h : gd28 k p q) : ∃ y0, q = PV.agg [PV.int (k), PV.int (k + (nth p.toAgg 0).cn), PV.list y0] ∧ Goods gd28 (k + (nth p.toAgg 0).cn + (nth p.toAgg 1).cn) (nth p.toAgg 2).toList y0 := by
  cases h with
  | mk h0 => exact ⟨_, rfl, Gd28L_to h0⟩
theorem gd28_in {k : Int} {p q : PV} (h : ∃ y0, q = PV.agg [PV.int (k), PV.int (k + (nth p.toAgg 0).cn), PV.list y0] ∧ Goods gd28 (k + (nth p.toAgg 0).cn + (nth p.toAgg 1).cn) (nth p.toAgg 2).toList y0) : gd28 k p q := by
  obtain ⟨y0, rfl, h0⟩ := h
  exact .mk (Gd28L_of h0)
theorem cn_26_aux : ∀ (N : Nat) (p : PV), SizeOf.sizeOf p = N → WfT Try.prog 26 p → p.cn ≤ 64 * p.wt := by
  intro N
  induction N using Nat.strongRecOn with
  | ind N ih =>
  intro p hN h 
  subst hN
  obtain ⟨l, rfl, hl, he⟩ := wf_slice (e := 28) (by kernel_rfl) h
  have h1 := cns_le (S := 64) (l := l) fun q hxm => by
    have hx := he q hxm
    obtain ⟨x0, x1, x2, rfl, xh0, xh1, xh2⟩ := wf28 hx
    have c2 := ih _ (by have := size_mem hxm; simp at this ⊢; omega) _ rfl xh2
    simp only [cn_agg, cns_cons, cns_nil, wt_agg, wts_cons, wts_nil, cn_int, wt_int, cn_bool, wt_bool, cn_str, wt_str]
    omega
  simp only [cn_list, wt_list]
  omega
theorem cn_26 {p : PV} (h : WfT Try.prog 26 p) : p.cn ≤ 64 * p.wt := by
  exact cn_26_aux _ _ rfl h
theorem mark_83_aux : ∀ (N : Nat) (p : PV), SizeOf.sizeOf p = N → WfT Try.prog 26 p → ∀ {k : Int}, 0 ≤ k → k + p.cn ≤ 1099511627776 → ∃ m, Goods gd28 k p.toList m ∧ Rn 83 [p, .int k] [.int (k + p.cn), .list m] := by
  intro N
  induction N using Nat.strongRecOn with
  | ind N ih =>
  intro p hN h k hk hB
  subst hN
  obtain ⟨l, rfl, hl, he⟩ := wf_slice (e := 28) (by kernel_rfl) h
  have hm : maxLen = 9223372036854775807 := rfl
  simp only [cn_list] at hB
  have key := mark_loop (body := fun n => L83_0 (ev Try.prog sg n) n) (pay := fun i k m => [.int i, .int k, .list m]) (res := fun k m => [.list m, .int k]) (good := gd28) (B := 1099511627776) (l := l) (fun d r x k hxm hlen h1 h2 => ?_) (fun k m hlen => Evt.all fun n => ?_) k hk hB
  · obtain ⟨m, hg, hloop⟩ := key
    refine ⟨m, hg, Is.of e83 (hloop.mp fun n h => ?_)⟩
    simp at h
    simp [F83, h]
  · have hx := he x hxm
    obtain ⟨x0, x1, x2, rfl, xh0, xh1, xh2⟩ := wf28 hx
    obtain ⟨l2, rfl, hl2, he2⟩ := wf_slice (e := 28) (by kernel_rfl) xh2
    simp at hlen h2
    obtain ⟨y2, g2, c0⟩ := ih _ (by have := size_mem hxm; simp at this ⊢; omega) _ rfl xh2 (k := k + 1 + 1) (by omega) (by simp; omega)
    refine ⟨_, gd28_in ⟨y2, rfl, by simpa using g2⟩, (c0).mp fun n h => ?_⟩
    simp at h
    simp (disch := omega) [L83_0, ltT, geT, wrap64, nth_mid, set_mid, h]
    try omega
  · simp (disch := omega) [L83_0, ltF, hlen]
theorem mark_83 {p : PV} (h : WfT Try.prog 26 p) {k : Int} (hk : 0 ≤ k) (hB : k + p.cn ≤ 1099511627776) : ∃ m, Goods gd28 k p.toList m ∧ Rn 83 [p, .int k] [.int (k + p.cn), .list m] := by
  exact mark_83_aux _ _ rfl h hk hB
def sn28 (p : PV) : Nat := (nth p.toAgg 2).cn
def gs28 (k : Int) (p q : PV) : Prop := ∃ (y2 : List PV), q = .agg [(nth p.toAgg 0), (nth p.toAgg 1), .list y2] ∧ Goods gd28 (k) (nth p.toAgg 2).toList y2
theorem sn28_le {p : PV} (h : WfT Try.prog 28 p) : sn28 p ≤ 64 * p.wt := by
  obtain ⟨x0, x1, x2, rfl, xh0, xh1, xh2⟩ := wf28 h
  have c2 := cn_26 xh2
  simp [sn28]
  omega
theorem mark_19 {p : PV} (h : WfT Try.prog 28 p) {k : Int} (hk : 0 ≤ k) (hB : k + sn28 p ≤ 1099511627776) : ∃ q, gs28 k p q ∧ Rn 19 [p, .int k] [.int (k + sn28 p), q] := by
  obtain ⟨x0, x1, x2, rfl, xh0, xh1, xh2⟩ := wf28 h
  simp [sn28] at hB
  obtain ⟨y2, g2, c0⟩ := mark_83 xh2 (k := k) (by omega) (by omega)
  refine ⟨_, ⟨y2, rfl, by simpa using g2⟩, Is.of e19 ((c0).mp fun n h => ?_)⟩
  simp [F19, h, sn28]
  try omega
theorem mark_4115 {p : PV} (h : WfT Try.prog 28 p) {k : Int} (hk : 0 ≤ k) (hB : k + sn28 p ≤ 1099511627776) : ∃ q, gs28 k p q ∧ Rn 4115 [p, .int k] [.int (k + sn28 p)] := by
  obtain ⟨x0, x1, x2, rfl, xh0, xh1, xh2⟩ := wf28 h
  simp [sn28] at hB
  obtain ⟨y2, g2, c0⟩ := mark_83 xh2 (k := k) (by omega) (by omega)
  refine ⟨_, ⟨y2, rfl, by simpa using g2⟩, Is.of e4115 ((c0).mp fun n h => ?_)⟩
  simp [F4115, h, sn28]
  try omega
theorem mark_4179 {p : PV} (h : WfT Try.prog 26 p) {k : Int} (hk : 0 ≤ k) (hB : k + p.cn ≤ 1099511627776) : ∃ m, Goods gd28 k p.toList m ∧ Rn 4179 [p, .int k] [.int (k + p.cn)] := by
  obtain ⟨l, rfl, hl, he⟩ := wf_slice (e := 28) (by kernel_rfl) h
  have hm : maxLen = 9223372036854775807 := rfl
  simp only [cn_list] at hB
  have key := mark_loop (body := fun n => L4179_0 (ev Try.prog sg n) n) (pay := fun i k m => [.int i, .list m, .int k]) (res := fun k m => [.int k]) (good := gd28) (B := 1099511627776) (l := l) (fun d r x k hxm hlen h1 h2 => ?_) (fun k m hlen => Evt.all fun n => ?_) k hk hB
  · obtain ⟨m, hg, hloop⟩ := key
    refine ⟨m, hg, Is.of e4179 (hloop.mp fun n h => ?_)⟩
    simp at h
    simp [F4179, h]
  · have hx := he x hxm
    obtain ⟨x0, x1, x2, rfl, xh0, xh1, xh2⟩ := wf28 hx
    obtain ⟨l2, rfl, hl2, he2⟩ := wf_slice (e := 28) (by kernel_rfl) xh2
    simp at hlen h2
    obtain ⟨y2, g2, c0⟩ := mark_83 xh2 (k := k + 1 + 1) (by omega) (by simp; omega)
    refine ⟨_, gd28_in ⟨y2, rfl, by simpa using g2⟩, (c0).mp fun n h => ?_⟩
    simp at h
    simp (disch := omega) [L4179_0, ltT, geT, wrap64, nth_mid, set_mid, h]
    try omega
  · simp (disch := omega) [L4179_0, ltF, hlen]
def sn63 (p : PV) : Nat := (nth p.toAgg 0).cn + (sn24 (nth p.toAgg 1)) + (nth p.toAgg 2).cn + (nth p.toAgg 3).cn + (nth p.toAgg 4).cn
def gs63 (k : Int) (p q : PV) : Prop := ∃ (y0 : List PV) (y1 : PV) (y2 : List PV) (y3 : List PV) (y4 : List PV), q = .agg [.list y0, y1, .list y2, .list y3, .list y4, (nth p.toAgg 5), (nth p.toAgg 6)] ∧ Goods gd176 (k) (nth p.toAgg 0).toList y0 ∧ gs24 (k + (nth p.toAgg 0).cn) (nth p.toAgg 1) y1 ∧ Goods gd3 (k + (nth p.toAgg 0).cn + (sn24 (nth p.toAgg 1))) (nth p.toAgg 2).toList y2 ∧ Goods gd198 (k + (nth p.toAgg 0).cn + (sn24 (nth p.toAgg 1)) + (nth p.toAgg 2).cn) (nth p.toAgg 3).toList y3 ∧ Goods gd3 (k + (nth p.toAgg 0).cn + (sn24 (nth p.toAgg 1)) + (nth p.toAgg 2).cn + (nth p.toAgg 3).cn) (nth p.toAgg 4).toList y4
theorem sn63_le {p : PV} (h : WfT Try.prog 63 p) : sn63 p ≤ 64 * p.wt := by
  obtain ⟨x0, x1, x2, x3, x4, x5, x6, rfl, xh0, xh1, xh2, xh3, xh4, xh5, xh6⟩ := wf63 h
  have c0 := cn_60 xh0
  have c1 := sn24_le xh1
  have c2 := cn_22 xh2
  have c3 := cn_61 xh3
  have c4 := cn_22 xh4
  simp [sn63]
  omega
theorem mark_61 {p : PV} (h : WfT Try.prog 63 p) {k : Int} (hk : 0 ≤ k) (hB : k + sn63 p ≤ 1099511627776) : ∃ q, gs63 k p q ∧ Rn 61 [p, .int k] [.int (k + sn63 p), q] := by
  obtain ⟨x0, x1, x2, x3, x4, x5, x6, rfl, xh0, xh1, xh2, xh3, xh4, xh5, xh6⟩ := wf63 h
  simp [sn63] at hB
  obtain ⟨y0, g0, c0⟩ := mark_69 xh0 (k := k) (by omega) (by omega)
  obtain ⟨y1, g1, c1⟩ := mark_18 xh1 (k := k + x0.cn) (by omega) (by omega)
  obtain ⟨y2, g2, c2⟩ := mark_25 xh2 (k := k + x0.cn + (sn24 x1 : Nat)) (by omega) (by omega)
  obtain ⟨y3, g3, c3⟩ := mark_133 xh3 (k := k + x0.cn + (sn24 x1 : Nat) + x2.cn) (by omega) (by omega)
  obtain ⟨y4, g4, c4⟩ := mark_25 xh4 (k := k + x0.cn + (sn24 x1 : Nat) + x2.cn + x3.cn) (by omega) (by omega)
  refine ⟨_, ⟨y0, y1, y2, y3, y4, rfl, by simpa using g0, by simpa using g1, by simpa using g2, by simpa using g3, by simpa using g4⟩, Is.of e61 ((Evt.and (Evt.and (Evt.and (Evt.and (c0) c1) c2) c3) c4).mp fun n h => ?_)⟩
  simp [F61, h, sn63]
  try omega
theorem mark_4157 {p : PV} (h : WfT Try.prog 63 p) {k : Int} (hk : 0 ≤ k) (hB : k + sn63 p ≤ 1099511627776) : ∃ q, gs63 k p q ∧ Rn 4157 [p, .int k] [.int (k + sn63 p)] := by
  obtain ⟨x0, x1, x2, x3, x4, x5, x6, rfl, xh0, xh1, xh2, xh3, xh4, xh5, xh6⟩ := wf63 h
  simp [sn63] at hB
  obtain ⟨y0, g0, c0⟩ := mark_69 xh0 (k := k) (by omega) (by omega)
  obtain ⟨y1, g1, c1⟩ := mark_18 xh1 (k := k + x0.cn) (by omega) (by omega)
  obtain ⟨y2, g2, c2⟩ := mark_25 xh2 (k := k + x0.cn + (sn24 x1 : Nat)) (by omega) (by omega)
  obtain ⟨y3, g3, c3⟩ := mark_133 xh3 (k := k + x0.cn + (sn24 x1 : Nat) + x2.cn) (by omega) (by omega)
  obtain ⟨y4, g4, c4⟩ := mark_25 xh4 (k := k + x0.cn + (sn24 x1 : Nat) + x2.cn + x3.cn) (by omega) (by omega)
  refine ⟨_, ⟨y0, y1, y2, y3, y4, rfl, by simpa using g0, by simpa using g1, by simpa using g2, by simpa using g3, by simpa using g4⟩, Is.of e4157 ((Evt.and (Evt.and (Evt.and (Evt.and (c0) c1) c2) c3) c4).mp fun n h => ?_)⟩
  simp [F4157, h, sn63]
  try omega
theorem held_84_aux : ∀ (N : Nat) (p : PV), SizeOf.sizeOf p = N → WfT Try.prog 26 p → ∀ {m : List PV} {k : Int}, 0 ≤ k → k + p.cn ≤ 1099511627776 → Goods gd28 k p.toList m → Rn 84 [.list m, .int k] [.int (k + p.cn)] := by
  intro N
  induction N using Nat.strongRecOn with
  | ind N ih =>
  intro p hN h m k hk hB hg
  subst hN
  obtain ⟨l, rfl, hl, he⟩ := wf_slice (e := 28) (by kernel_rfl) h
  have hm : maxLen = 9223372036854775807 := rfl
  simp only [cn_list] at hB
  have hlen := hg.len
  simp only [toList_list] at hlen
  have hloop := held_loop (body := fun n => L84_0 (ev Try.prog sg n) n) (pay := fun i k => [.int i, .list m, .int k]) (good := fun k x y => x ∈ l ∧ gd28 k x y) (B := 1099511627776) (l := l) (m := m) hlen (fun i k x hi hgx h1 h2 => ?_) (fun k => Evt.all fun n => ?_) k hk hB (Goods.mem hg)
  · refine Is.of e84 (hloop.mp fun n h => ?_)
    simp at h
    simp [F84, h]
  · obtain ⟨hxm, hgx⟩ := hgx
    have hx := he x hxm
    obtain ⟨x0, x1, x2, rfl, xh0, xh1, xh2⟩ := wf28 hx
    obtain ⟨l2, rfl, hl2, he2⟩ := wf_slice (e := 28) (by kernel_rfl) xh2
    simp at h2
    obtain ⟨y2, hgx, g2⟩ := gd28_out hgx
    have c0 := ih _ (by have := size_mem hxm; simp at this ⊢; omega) _ rfl xh2 (k := k + 1 + 1) (by omega) (by simp; omega) (by simpa using g2)
    refine (c0).mp fun n h => ?_
    simp at h hgx
    simp (disch := omega) [L84_0, ltT, ltF, geT, wrap64, neF, hgx, h]
    try omega
  · simp (disch := omega) [L84_0, ltF]
theorem held_84 {p : PV} (h : WfT Try.prog 26 p) {m : List PV} {k : Int} (hk : 0 ≤ k) (hB : k + p.cn ≤ 1099511627776) (hg : Goods gd28 k p.toList m) : Rn 84 [.list m, .int k] [.int (k + p.cn)] := by
  exact held_84_aux _ _ rfl h hk hB hg
theorem held_20 {p : PV} (h : WfT Try.prog 28 p) {q : PV} {k : Int} (hk : 0 ≤ k) (hB : k + sn28 p ≤ 1099511627776) (hg : gs28 k p q) : Rn 20 [q, .int k] [.int (k + sn28 p)] := by
  obtain ⟨x0, x1, x2, rfl, xh0, xh1, xh2⟩ := wf28 h
  simp [sn28] at hB
  obtain ⟨y2, rfl, g2⟩ := hg
  have c0 := held_84 xh2 (k := k) (by omega) (by omega) (by simpa using g2)
  have nn : ∀ (a : Int) (b : Nat), 0 ≤ a → ¬ a + (b : Int) < 0 := fun a b h => by omega
  refine Is.of e20 ((c0).mp fun n h => ?_)
  simp (disch := omega) [F20, h, sn28, ltF]
  try omega
end Go.Proofs.Ytijgokehlicmnaa.GFnExactOutcome
