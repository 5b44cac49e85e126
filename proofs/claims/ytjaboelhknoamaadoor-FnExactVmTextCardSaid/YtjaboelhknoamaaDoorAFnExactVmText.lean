/- The helpers of the law FnExactVmText: sizes, copies, comparisons, marks. Each under the conditions that it names. -/
import Derived.Test.YtjaboelhknoamaaDoorGFnExactVmText
import Derived.Test.YtjaboelhknoamaaDoorRscZp
namespace Go.Proofs.YtjaboelhknoamaaDoor.GFnExactVmText
open Go Go.Rsc Go.Proofs.YtjaboelhknoamaaDoor
set_option maxRecDepth 100000
set_option linter.unusedVariables false
set_option linter.unusedSimpArgs false
theorem size_mem {l : List PV} {x : PV} (h : x ∈ l) : SizeOf.sizeOf x < SizeOf.sizeOf (PV.list l) := by
  have := List.sizeOf_lt_of_mem h
  simp; omega
@[simp] theorem cmpS_ne (s : ByteArray) : cmpS BinOp.neq s s = false := by simp [cmpS]
abbrev Rn (f : FuncId) (a r : List PV) : Prop := Is Tryd.prog sg f a r
theorem wf114 {p : PV} (h : WfT Tryd.prog 114 p) : ∃ x0 x1 x2, p = .agg [PV.int x0, PV.int x1, PV.int x2] ∧ (-9223372036854775808 ≤ x0 ∧ x0 < 9223372036854775808) ∧ (-9223372036854775808 ≤ x1 ∧ x1 < 9223372036854775808) ∧ (-9223372036854775808 ≤ x2 ∧ x2 < 9223372036854775808) := by
  obtain ⟨l, rfl, hl, hf⟩ := wf_struct Tryd.underlying114 h
  obtain ⟨y0, y1, y2, rfl⟩ : ∃ y0 y1 y2, l = [y0, y1, y2] := by
    match l, hl with
    | [a0, a1, a2], _ => exact ⟨a0, a1, a2, rfl⟩
  have h0 := hf 0 _ _ rfl rfl
  obtain ⟨x0, rfl, r0⟩ := wf_int (k := .i64) (by kernel_rfl) h0
  have h1 := hf 1 _ _ rfl rfl
  obtain ⟨x1, rfl, r1⟩ := wf_int (k := .i64) (by kernel_rfl) h1
  have h2 := hf 2 _ _ rfl rfl
  obtain ⟨x2, rfl, r2⟩ := wf_int (k := .i64) (by kernel_rfl) h2
  exact ⟨x0, x1, x2, rfl, wf64 r0, wf64 r1, wf64 r2⟩
theorem mk114 {x0 : Int} {x1 : Int} {x2 : Int} (h0 : (-9223372036854775808 ≤ x0 ∧ x0 < 9223372036854775808)) (h1 : (-9223372036854775808 ≤ x1 ∧ x1 < 9223372036854775808)) (h2 : (-9223372036854775808 ≤ x2 ∧ x2 < 9223372036854775808)) : WfT Tryd.prog 114 (.agg [PV.int x0, PV.int x1, PV.int x2]) := by
  refine .struct Tryd.underlying114 rfl fun i f q hf hq => ?_
  match i, hf, hq with
  | 0, hf, hq => obtain rfl := Option.some.inj hf; obtain rfl := Option.some.inj hq; exact .int (k := .i64) (by kernel_rfl) (wf_mk64 h0.1 h0.2)
  | 1, hf, hq => obtain rfl := Option.some.inj hf; obtain rfl := Option.some.inj hq; exact .int (k := .i64) (by kernel_rfl) (wf_mk64 h1.1 h1.2)
  | 2, hf, hq => obtain rfl := Option.some.inj hf; obtain rfl := Option.some.inj hq; exact .int (k := .i64) (by kernel_rfl) (wf_mk64 h2.1 h2.2)
  | n + 3, hf, hq => simp at hq
theorem sz_47 {p : PV} (h : WfT Tryd.prog 56 p) {x : Int} (hx : 0 ≤ x) (hB : x ≤ 1048576) : Rn 47 [p, .int x] [.int (szR x p.wt)] := by
  obtain ⟨l, rfl, hl, he⟩ := wf_slice (e := 114) (by kernel_rfl) h
  have hz : PV.wts l = 0 := wts_zero fun q hq => by
    have hq := he q hq
    obtain ⟨x0, x1, x2, rfl, xh0, xh1, xh2⟩ := wf114 hq
    simp
  have hm : maxLen = 9223372036854775807 := rfl
  refine Is.of e47 (Evt.all fun n => ?_)
  by_cases s : x - l.length < 0
  · rw [szR_lt (by simp [hz]; omega)]
    simp (disch := omega) [F47, wrap64, ltT]
  · rw [szR_ge (by simp [hz]; omega)]
    simp (disch := omega) [F47, wrap64, ltF, hz]
theorem wf99 {p : PV} (h : WfT Tryd.prog 99 p) : ∃ x0 x1 x2, p = .agg [PV.int x0, PV.int x1, PV.int x2] ∧ (-9223372036854775808 ≤ x0 ∧ x0 < 9223372036854775808) ∧ (-9223372036854775808 ≤ x1 ∧ x1 < 9223372036854775808) ∧ (-9223372036854775808 ≤ x2 ∧ x2 < 9223372036854775808) := by
  obtain ⟨l, rfl, hl, hf⟩ := wf_struct Tryd.underlying99 h
  obtain ⟨y0, y1, y2, rfl⟩ : ∃ y0 y1 y2, l = [y0, y1, y2] := by
    match l, hl with
    | [a0, a1, a2], _ => exact ⟨a0, a1, a2, rfl⟩
  have h0 := hf 0 _ _ rfl rfl
  obtain ⟨x0, rfl, r0⟩ := wf_int (k := .i64) (by kernel_rfl) h0
  have h1 := hf 1 _ _ rfl rfl
  obtain ⟨x1, rfl, r1⟩ := wf_int (k := .i64) (by kernel_rfl) h1
  have h2 := hf 2 _ _ rfl rfl
  obtain ⟨x2, rfl, r2⟩ := wf_int (k := .i64) (by kernel_rfl) h2
  exact ⟨x0, x1, x2, rfl, wf64 r0, wf64 r1, wf64 r2⟩
theorem mk99 {x0 : Int} {x1 : Int} {x2 : Int} (h0 : (-9223372036854775808 ≤ x0 ∧ x0 < 9223372036854775808)) (h1 : (-9223372036854775808 ≤ x1 ∧ x1 < 9223372036854775808)) (h2 : (-9223372036854775808 ≤ x2 ∧ x2 < 9223372036854775808)) : WfT Tryd.prog 99 (.agg [PV.int x0, PV.int x1, PV.int x2]) := by
  refine .struct Tryd.underlying99 rfl fun i f q hf hq => ?_
  match i, hf, hq with
  | 0, hf, hq => obtain rfl := Option.some.inj hf; obtain rfl := Option.some.inj hq; exact .int (k := .i64) (by kernel_rfl) (wf_mk64 h0.1 h0.2)
  | 1, hf, hq => obtain rfl := Option.some.inj hf; obtain rfl := Option.some.inj hq; exact .int (k := .i64) (by kernel_rfl) (wf_mk64 h1.1 h1.2)
  | 2, hf, hq => obtain rfl := Option.some.inj hf; obtain rfl := Option.some.inj hq; exact .int (k := .i64) (by kernel_rfl) (wf_mk64 h2.1 h2.2)
  | n + 3, hf, hq => simp at hq
theorem sz_27 {p : PV} (h : WfT Tryd.prog 22 p) {x : Int} (hx : 0 ≤ x) (hB : x ≤ 1048576) : Rn 27 [p, .int x] [.int (szR x p.wt)] := by
  obtain ⟨l, rfl, hl, he⟩ := wf_slice (e := 99) (by kernel_rfl) h
  have hz : PV.wts l = 0 := wts_zero fun q hq => by
    have hq := he q hq
    obtain ⟨x0, x1, x2, rfl, xh0, xh1, xh2⟩ := wf99 hq
    simp
  have hm : maxLen = 9223372036854775807 := rfl
  refine Is.of e27 (Evt.all fun n => ?_)
  by_cases s : x - l.length < 0
  · rw [szR_lt (by simp [hz]; omega)]
    simp (disch := omega) [F27, wrap64, ltT]
  · rw [szR_ge (by simp [hz]; omega)]
    simp (disch := omega) [F27, wrap64, ltF, hz]
theorem wf24 {p : PV} (h : WfT Tryd.prog 24 p) : ∃ x0 x1, p = .agg [PV.int x0, x1] ∧ (-9223372036854775808 ≤ x0 ∧ x0 < 9223372036854775808) ∧ WfT Tryd.prog 22 x1 := by
  obtain ⟨l, rfl, hl, hf⟩ := wf_struct Tryd.underlying24 h
  obtain ⟨y0, y1, rfl⟩ : ∃ y0 y1, l = [y0, y1] := by
    match l, hl with
    | [a0, a1], _ => exact ⟨a0, a1, rfl⟩
  have h0 := hf 0 _ _ rfl rfl
  obtain ⟨x0, rfl, r0⟩ := wf_int (k := .i64) (by kernel_rfl) h0
  have h1 := hf 1 _ _ rfl rfl
  exact ⟨x0, y1, rfl, wf64 r0, h1⟩
theorem mk24 {x0 : Int} {x1 : PV} (h0 : (-9223372036854775808 ≤ x0 ∧ x0 < 9223372036854775808)) (h1 : WfT Tryd.prog 22 x1) : WfT Tryd.prog 24 (.agg [PV.int x0, x1]) := by
  refine .struct Tryd.underlying24 rfl fun i f q hf hq => ?_
  match i, hf, hq with
  | 0, hf, hq => obtain rfl := Option.some.inj hf; obtain rfl := Option.some.inj hq; exact .int (k := .i64) (by kernel_rfl) (wf_mk64 h0.1 h0.2)
  | 1, hf, hq => obtain rfl := Option.some.inj hf; obtain rfl := Option.some.inj hq; exact h1
  | n + 2, hf, hq => simp at hq
theorem sz_7 {p : PV} (h : WfT Tryd.prog 24 p) {x : Int} (hx : 0 ≤ x) (hB : x ≤ 1048576) : Rn 7 [p, .int x] [.int (szR x p.wt)] := by
  obtain ⟨x0, x1, rfl, xh0, xh1⟩ := wf24 h
  have c0 := sz_27 xh1 (x := x) (by omega) (by omega)
  by_cases s0 : szR (x) x1.wt < 0
  · have q : szR x (PV.agg [PV.int x0, x1]).wt = -1 := szR_lt (by have := (szR_neg (w := x1.wt) (x := x) (by omega)).1 s0; simp; omega)
    rw [q]
    exact Is.of e7 ((c0).mp fun n h => by simp [F7, h, ltT s0])
  have g0 : (x1.wt : Int) ≤ x := by have := mt (szR_neg (w := x1.wt) (x := x) (by omega)).2 s0; omega
  have d0 : szR (x) x1.wt = x - x1.wt := szR_ge g0
  rw [d0] at c0 s0
  have q : szR x (PV.agg [PV.int x0, x1]).wt = x - x1.wt := by rw [szR_ge (by simp <;> omega)]; simp <;> omega
  rw [q]
  exact Is.of e7 ((c0).mp fun n h => by simp [F7, h, ltF (Int.not_lt.1 s0)])
theorem sz_45 {p : PV} (h : WfT Tryd.prog 53 p) {x : Int} (hx : 0 ≤ x) (hB : x ≤ 1048576) : Rn 45 [p, .int x] [.int (szR x p.wt)] := by
  obtain ⟨l, rfl, hl, he⟩ := wf_slice (e := 24) (by kernel_rfl) h
  have hm : maxLen = 9223372036854775807 := rfl
  by_cases s : x - l.length < 0
  · rw [szR_lt (by simp; omega)]
    exact Is.of e45 (Evt.all fun n => by simp (disch := omega) [F45, wrap64, ltT])
  have hloop := sz_loop (body := fun n => L45_0 (ev Tryd.prog sg n) n) (pay := fun i y => [.int i, .list l, .int y]) (l := l) (B := 1048576) (fun i hi y h1 h2 => ?_) (fun y h1 => Evt.all fun n => ?_) (x - l.length) (by omega) (by omega)
  · have q : szR x (PV.list l).wt = szR (x - l.length) (PV.wts l) := by
      simp only [wt_list, szR]; push_cast
      by_cases hh : (PV.wts l : Int) ≤ x - l.length
      · rw [if_pos hh, if_pos (by omega)]; omega
      · rw [if_neg hh, if_neg (by omega)]
    rw [q]
    refine Is.of e45 (hloop.mp fun n h => ?_)
    simp only [show ((0 : Nat) : Int) = 0 from rfl] at h
    by_cases s2 : szR (x - l.length) (PV.wts l) < 0
    · have s3 := (szR_neg (by omega)).1 s2
      rw [if_pos s2] at h
      rw [szR_lt (by omega)]
      simp (disch := omega) [F45, wrap64, ltF, h]
    · rw [if_neg s2] at h
      simp (disch := omega) [F45, wrap64, ltF, h]
  · refine (sz_7 (he _ (nth_mem hi)) h1 h2).mp fun n h => ?_
    by_cases s2 : szR y (nth l i).wt < 0
    · rw [if_pos s2]
      simp (disch := omega) [L45_0, ltT, geT, wrap64, h, hi]
    · rw [if_neg s2]
      simp (disch := omega) [L45_0, ltT, ltF, geT, wrap64, h, hi]
  · simp (disch := omega) [L45_0, ltF]
theorem sz_34 {p : PV} (h : WfT Tryd.prog 33 p) {x : Int} (hx : 0 ≤ x) (hB : x ≤ 1048576) : Rn 34 [p, .int x] [.int (szR x p.wt)] := by
  obtain ⟨l, rfl, hl, he⟩ := wf_slice (e := 3) (by kernel_rfl) h
  have hz : PV.wts l = 0 := wts_zero fun q hq => by
    have hq := he q hq
    obtain ⟨x0, rfl, xr⟩ := wf_int (k := .i64) (by kernel_rfl) hq
    have xr := wf64 xr
    simp
  have hm : maxLen = 9223372036854775807 := rfl
  refine Is.of e34 (Evt.all fun n => ?_)
  by_cases s : x - l.length < 0
  · rw [szR_lt (by simp [hz]; omega)]
    simp (disch := omega) [F34, wrap64, ltT]
  · rw [szR_ge (by simp [hz]; omega)]
    simp (disch := omega) [F34, wrap64, ltF, hz]
theorem wf55 {p : PV} (h : WfT Tryd.prog 55 p) : ∃ x0 x1 x2 x3, p = .agg [x0, PV.int x1, PV.int x2, PV.int x3] ∧ WfT Tryd.prog 33 x0 ∧ (-9223372036854775808 ≤ x1 ∧ x1 < 9223372036854775808) ∧ (-9223372036854775808 ≤ x2 ∧ x2 < 9223372036854775808) ∧ (-9223372036854775808 ≤ x3 ∧ x3 < 9223372036854775808) := by
  obtain ⟨l, rfl, hl, hf⟩ := wf_struct Tryd.underlying55 h
  obtain ⟨y0, y1, y2, y3, rfl⟩ : ∃ y0 y1 y2 y3, l = [y0, y1, y2, y3] := by
    match l, hl with
    | [a0, a1, a2, a3], _ => exact ⟨a0, a1, a2, a3, rfl⟩
  have h0 := hf 0 _ _ rfl rfl
  have h1 := hf 1 _ _ rfl rfl
  obtain ⟨x1, rfl, r1⟩ := wf_int (k := .i64) (by kernel_rfl) h1
  have h2 := hf 2 _ _ rfl rfl
  obtain ⟨x2, rfl, r2⟩ := wf_int (k := .i64) (by kernel_rfl) h2
  have h3 := hf 3 _ _ rfl rfl
  obtain ⟨x3, rfl, r3⟩ := wf_int (k := .i64) (by kernel_rfl) h3
  exact ⟨y0, x1, x2, x3, rfl, h0, wf64 r1, wf64 r2, wf64 r3⟩
theorem mk55 {x0 : PV} {x1 : Int} {x2 : Int} {x3 : Int} (h0 : WfT Tryd.prog 33 x0) (h1 : (-9223372036854775808 ≤ x1 ∧ x1 < 9223372036854775808)) (h2 : (-9223372036854775808 ≤ x2 ∧ x2 < 9223372036854775808)) (h3 : (-9223372036854775808 ≤ x3 ∧ x3 < 9223372036854775808)) : WfT Tryd.prog 55 (.agg [x0, PV.int x1, PV.int x2, PV.int x3]) := by
  refine .struct Tryd.underlying55 rfl fun i f q hf hq => ?_
  match i, hf, hq with
  | 0, hf, hq => obtain rfl := Option.some.inj hf; obtain rfl := Option.some.inj hq; exact h0
  | 1, hf, hq => obtain rfl := Option.some.inj hf; obtain rfl := Option.some.inj hq; exact .int (k := .i64) (by kernel_rfl) (wf_mk64 h1.1 h1.2)
  | 2, hf, hq => obtain rfl := Option.some.inj hf; obtain rfl := Option.some.inj hq; exact .int (k := .i64) (by kernel_rfl) (wf_mk64 h2.1 h2.2)
  | 3, hf, hq => obtain rfl := Option.some.inj hf; obtain rfl := Option.some.inj hq; exact .int (k := .i64) (by kernel_rfl) (wf_mk64 h3.1 h3.2)
  | n + 4, hf, hq => simp at hq
theorem sz_46 {p : PV} (h : WfT Tryd.prog 55 p) {x : Int} (hx : 0 ≤ x) (hB : x ≤ 1048576) : Rn 46 [p, .int x] [.int (szR x p.wt)] := by
  obtain ⟨x0, x1, x2, x3, rfl, xh0, xh1, xh2, xh3⟩ := wf55 h
  have c0 := sz_34 xh0 (x := x) (by omega) (by omega)
  by_cases s0 : szR (x) x0.wt < 0
  · have q : szR x (PV.agg [x0, PV.int x1, PV.int x2, PV.int x3]).wt = -1 := szR_lt (by have := (szR_neg (w := x0.wt) (x := x) (by omega)).1 s0; simp; omega)
    rw [q]
    exact Is.of e46 ((c0).mp fun n h => by simp [F46, h, ltT s0])
  have g0 : (x0.wt : Int) ≤ x := by have := mt (szR_neg (w := x0.wt) (x := x) (by omega)).2 s0; omega
  have d0 : szR (x) x0.wt = x - x0.wt := szR_ge g0
  rw [d0] at c0 s0
  have q : szR x (PV.agg [x0, PV.int x1, PV.int x2, PV.int x3]).wt = x - x0.wt := by rw [szR_ge (by simp <;> omega)]; simp <;> omega
  rw [q]
  exact Is.of e46 ((c0).mp fun n h => by simp [F46, h, ltF (Int.not_lt.1 s0)])
theorem wf58 {p : PV} (h : WfT Tryd.prog 58 p) : ∃ x0 x1 x2 x3 x4 x5 x6, p = .agg [x0, x1, x2, x3, x4, PV.int x5, PV.bool x6] ∧ WfT Tryd.prog 53 x0 ∧ WfT Tryd.prog 55 x1 ∧ WfT Tryd.prog 33 x2 ∧ WfT Tryd.prog 56 x3 ∧ WfT Tryd.prog 33 x4 ∧ (-9223372036854775808 ≤ x5 ∧ x5 < 9223372036854775808) ∧ True := by
  obtain ⟨l, rfl, hl, hf⟩ := wf_struct Tryd.underlying58 h
  obtain ⟨y0, y1, y2, y3, y4, y5, y6, rfl⟩ : ∃ y0 y1 y2 y3 y4 y5 y6, l = [y0, y1, y2, y3, y4, y5, y6] := by
    match l, hl with
    | [a0, a1, a2, a3, a4, a5, a6], _ => exact ⟨a0, a1, a2, a3, a4, a5, a6, rfl⟩
  have h0 := hf 0 _ _ rfl rfl
  have h1 := hf 1 _ _ rfl rfl
  have h2 := hf 2 _ _ rfl rfl
  have h3 := hf 3 _ _ rfl rfl
  have h4 := hf 4 _ _ rfl rfl
  have h5 := hf 5 _ _ rfl rfl
  obtain ⟨x5, rfl, r5⟩ := wf_int (k := .i64) (by kernel_rfl) h5
  have h6 := hf 6 _ _ rfl rfl
  obtain ⟨x6, rfl⟩ := wf_bool (by kernel_rfl) h6
  exact ⟨y0, y1, y2, y3, y4, x5, x6, rfl, h0, h1, h2, h3, h4, wf64 r5, trivial⟩
theorem mk58 {x0 : PV} {x1 : PV} {x2 : PV} {x3 : PV} {x4 : PV} {x5 : Int} {x6 : Bool} (h0 : WfT Tryd.prog 53 x0) (h1 : WfT Tryd.prog 55 x1) (h2 : WfT Tryd.prog 33 x2) (h3 : WfT Tryd.prog 56 x3) (h4 : WfT Tryd.prog 33 x4) (h5 : (-9223372036854775808 ≤ x5 ∧ x5 < 9223372036854775808)) : WfT Tryd.prog 58 (.agg [x0, x1, x2, x3, x4, PV.int x5, PV.bool x6]) := by
  refine .struct Tryd.underlying58 rfl fun i f q hf hq => ?_
  match i, hf, hq with
  | 0, hf, hq => obtain rfl := Option.some.inj hf; obtain rfl := Option.some.inj hq; exact h0
  | 1, hf, hq => obtain rfl := Option.some.inj hf; obtain rfl := Option.some.inj hq; exact h1
  | 2, hf, hq => obtain rfl := Option.some.inj hf; obtain rfl := Option.some.inj hq; exact h2
  | 3, hf, hq => obtain rfl := Option.some.inj hf; obtain rfl := Option.some.inj hq; exact h3
  | 4, hf, hq => obtain rfl := Option.some.inj hf; obtain rfl := Option.some.inj hq; exact h4
  | 5, hf, hq => obtain rfl := Option.some.inj hf; obtain rfl := Option.some.inj hq; exact .int (k := .i64) (by kernel_rfl) (wf_mk64 h5.1 h5.2)
  | 6, hf, hq => obtain rfl := Option.some.inj hf; obtain rfl := Option.some.inj hq; exact .bool (by kernel_rfl)
  | n + 7, hf, hq => simp at hq
theorem sz_22 {p : PV} (h : WfT Tryd.prog 58 p) {x : Int} (hx : 0 ≤ x) (hB : x ≤ 1048576) : Rn 22 [p, .int x] [.int (szR x p.wt)] := by
  obtain ⟨x0, x1, x2, x3, x4, x5, x6, rfl, xh0, xh1, xh2, xh3, xh4, xh5, xh6⟩ := wf58 h
  have c0 := sz_45 xh0 (x := x) (by omega) (by omega)
  by_cases s0 : szR (x) x0.wt < 0
  · have q : szR x (PV.agg [x0, x1, x2, x3, x4, PV.int x5, PV.bool x6]).wt = -1 := szR_lt (by have := (szR_neg (w := x0.wt) (x := x) (by omega)).1 s0; simp; omega)
    rw [q]
    exact Is.of e22 ((c0).mp fun n h => by simp [F22, h, ltT s0])
  have g0 : (x0.wt : Int) ≤ x := by have := mt (szR_neg (w := x0.wt) (x := x) (by omega)).2 s0; omega
  have d0 : szR (x) x0.wt = x - x0.wt := szR_ge g0
  rw [d0] at c0 s0
  have c1 := sz_46 xh1 (x := x - x0.wt) (by omega) (by omega)
  by_cases s1 : szR (x - x0.wt) x1.wt < 0
  · have q : szR x (PV.agg [x0, x1, x2, x3, x4, PV.int x5, PV.bool x6]).wt = -1 := szR_lt (by have := (szR_neg (w := x1.wt) (x := x - x0.wt) (by omega)).1 s1; simp; omega)
    rw [q]
    exact Is.of e22 ((Evt.and (c0) c1).mp fun n h => by simp [F22, h, ltF (Int.not_lt.1 s0), ltT s1])
  have g1 : (x1.wt : Int) ≤ x - x0.wt := by have := mt (szR_neg (w := x1.wt) (x := x - x0.wt) (by omega)).2 s1; omega
  have d1 : szR (x - x0.wt) x1.wt = x - x0.wt - x1.wt := szR_ge g1
  rw [d1] at c1 s1
  have c2 := sz_34 xh2 (x := x - x0.wt - x1.wt) (by omega) (by omega)
  by_cases s2 : szR (x - x0.wt - x1.wt) x2.wt < 0
  · have q : szR x (PV.agg [x0, x1, x2, x3, x4, PV.int x5, PV.bool x6]).wt = -1 := szR_lt (by have := (szR_neg (w := x2.wt) (x := x - x0.wt - x1.wt) (by omega)).1 s2; simp; omega)
    rw [q]
    exact Is.of e22 ((Evt.and (Evt.and (c0) c1) c2).mp fun n h => by simp [F22, h, ltF (Int.not_lt.1 s0), ltF (Int.not_lt.1 s1), ltT s2])
  have g2 : (x2.wt : Int) ≤ x - x0.wt - x1.wt := by have := mt (szR_neg (w := x2.wt) (x := x - x0.wt - x1.wt) (by omega)).2 s2; omega
  have d2 : szR (x - x0.wt - x1.wt) x2.wt = x - x0.wt - x1.wt - x2.wt := szR_ge g2
  rw [d2] at c2 s2
  have c3 := sz_47 xh3 (x := x - x0.wt - x1.wt - x2.wt) (by omega) (by omega)
  by_cases s3 : szR (x - x0.wt - x1.wt - x2.wt) x3.wt < 0
  · have q : szR x (PV.agg [x0, x1, x2, x3, x4, PV.int x5, PV.bool x6]).wt = -1 := szR_lt (by have := (szR_neg (w := x3.wt) (x := x - x0.wt - x1.wt - x2.wt) (by omega)).1 s3; simp; omega)
    rw [q]
    exact Is.of e22 ((Evt.and (Evt.and (Evt.and (c0) c1) c2) c3).mp fun n h => by simp [F22, h, ltF (Int.not_lt.1 s0), ltF (Int.not_lt.1 s1), ltF (Int.not_lt.1 s2), ltT s3])
  have g3 : (x3.wt : Int) ≤ x - x0.wt - x1.wt - x2.wt := by have := mt (szR_neg (w := x3.wt) (x := x - x0.wt - x1.wt - x2.wt) (by omega)).2 s3; omega
  have d3 : szR (x - x0.wt - x1.wt - x2.wt) x3.wt = x - x0.wt - x1.wt - x2.wt - x3.wt := szR_ge g3
  rw [d3] at c3 s3
  have c4 := sz_34 xh4 (x := x - x0.wt - x1.wt - x2.wt - x3.wt) (by omega) (by omega)
  by_cases s4 : szR (x - x0.wt - x1.wt - x2.wt - x3.wt) x4.wt < 0
  · have q : szR x (PV.agg [x0, x1, x2, x3, x4, PV.int x5, PV.bool x6]).wt = -1 := szR_lt (by have := (szR_neg (w := x4.wt) (x := x - x0.wt - x1.wt - x2.wt - x3.wt) (by omega)).1 s4; simp; omega)
    rw [q]
    exact Is.of e22 ((Evt.and (Evt.and (Evt.and (Evt.and (c0) c1) c2) c3) c4).mp fun n h => by simp [F22, h, ltF (Int.not_lt.1 s0), ltF (Int.not_lt.1 s1), ltF (Int.not_lt.1 s2), ltF (Int.not_lt.1 s3), ltT s4])
  have g4 : (x4.wt : Int) ≤ x - x0.wt - x1.wt - x2.wt - x3.wt := by have := mt (szR_neg (w := x4.wt) (x := x - x0.wt - x1.wt - x2.wt - x3.wt) (by omega)).2 s4; omega
  have d4 : szR (x - x0.wt - x1.wt - x2.wt - x3.wt) x4.wt = x - x0.wt - x1.wt - x2.wt - x3.wt - x4.wt := szR_ge g4
  rw [d4] at c4 s4
  have q : szR x (PV.agg [x0, x1, x2, x3, x4, PV.int x5, PV.bool x6]).wt = x - x0.wt - x1.wt - x2.wt - x3.wt - x4.wt := by rw [szR_ge (by simp <;> omega)]; simp <;> omega
  rw [q]
  exact Is.of e22 ((Evt.and (Evt.and (Evt.and (Evt.and (c0) c1) c2) c3) c4).mp fun n h => by simp [F22, h, ltF (Int.not_lt.1 s0), ltF (Int.not_lt.1 s1), ltF (Int.not_lt.1 s2), ltF (Int.not_lt.1 s3), ltF (Int.not_lt.1 s4)])
theorem to_64 {p : PV} (h : WfT Tryd.prog 114 p) (hw : p.wt ≤ 1048576) : Rn 64 [p] [p] := by
  obtain ⟨x0, x1, x2, rfl, xh0, xh1, xh2⟩ := wf114 h
  simp at hw
  exact Is.of e64 (Evt.all fun n => by simp [F64])
theorem to_51 {p : PV} (h : WfT Tryd.prog 56 p) (hw : p.wt ≤ 1048576) : Rn 51 [p] [p] := by
  obtain ⟨l, rfl, hl, he⟩ := wf_slice (e := 114) (by kernel_rfl) h
  simp at hw
  refine Is.of e51 ?_
  have hloop := loop_run (body := fun n => L51_0 (ev Tryd.prog sg n) n) (e := .x 0) (res := [.list l]) (fun i => [.int i, .list l, .list (l.take i ++ List.replicate (l.length - i) (PV.agg [(PV.int (0 : Int)), (PV.int (0 : Int)), (PV.int (0 : Int))]))]) l.length (fun i hi => ?_) (Evt.all fun n => ?_) (by simp)
  · refine hloop.mp fun n h => ?_
    simp at h
    simp (disch := omega) [F51, leT, geT, h]
  · have hm := nth_mem hi
    refine (to_64 (he _ hm) (by have := wt_mem hm; omega)).mp fun n h => ?_
    simp (disch := omega) [L51_0, ltT, geT, wrap64, h, fill_set, hi]
  · simp (disch := omega) [L51_0, ltF]
theorem to_57 {p : PV} (h : WfT Tryd.prog 99 p) (hw : p.wt ≤ 1048576) : Rn 57 [p] [p] := by
  obtain ⟨x0, x1, x2, rfl, xh0, xh1, xh2⟩ := wf99 h
  simp at hw
  exact Is.of e57 (Evt.all fun n => by simp [F57])
theorem to_30 {p : PV} (h : WfT Tryd.prog 22 p) (hw : p.wt ≤ 1048576) : Rn 30 [p] [p] := by
  obtain ⟨l, rfl, hl, he⟩ := wf_slice (e := 99) (by kernel_rfl) h
  simp at hw
  refine Is.of e30 ?_
  have hloop := loop_run (body := fun n => L30_0 (ev Tryd.prog sg n) n) (e := .x 0) (res := [.list l]) (fun i => [.int i, .list l, .list (l.take i ++ List.replicate (l.length - i) (PV.agg [(PV.int (0 : Int)), (PV.int (0 : Int)), (PV.int (0 : Int))]))]) l.length (fun i hi => ?_) (Evt.all fun n => ?_) (by simp)
  · refine hloop.mp fun n h => ?_
    simp at h
    simp (disch := omega) [F30, leT, geT, h]
  · have hm := nth_mem hi
    refine (to_57 (he _ hm) (by have := wt_mem hm; omega)).mp fun n h => ?_
    simp (disch := omega) [L30_0, ltT, geT, wrap64, h, fill_set, hi]
  · simp (disch := omega) [L30_0, ltF]
theorem to_9 {p : PV} (h : WfT Tryd.prog 24 p) (hw : p.wt ≤ 1048576) : Rn 9 [p] [p] := by
  obtain ⟨x0, x1, rfl, xh0, xh1⟩ := wf24 h
  simp at hw
  have c0 := to_30 xh1 (by omega)
  exact Is.of e9 ((c0).mp fun n h => by simp [F9, h])
theorem to_49 {p : PV} (h : WfT Tryd.prog 53 p) (hw : p.wt ≤ 1048576) : Rn 49 [p] [p] := by
  obtain ⟨l, rfl, hl, he⟩ := wf_slice (e := 24) (by kernel_rfl) h
  simp at hw
  refine Is.of e49 ?_
  have hloop := loop_run (body := fun n => L49_0 (ev Tryd.prog sg n) n) (e := .x 0) (res := [.list l]) (fun i => [.int i, .list l, .list (l.take i ++ List.replicate (l.length - i) (PV.agg [(PV.int (0 : Int)), (PV.list ([] : List PV))]))]) l.length (fun i hi => ?_) (Evt.all fun n => ?_) (by simp)
  · refine hloop.mp fun n h => ?_
    simp at h
    simp (disch := omega) [F49, leT, geT, h]
  · have hm := nth_mem hi
    refine (to_9 (he _ hm) (by have := wt_mem hm; omega)).mp fun n h => ?_
    simp (disch := omega) [L49_0, ltT, geT, wrap64, h, fill_set, hi]
  · simp (disch := omega) [L49_0, ltF]
theorem to_37 {p : PV} (h : WfT Tryd.prog 33 p) (hw : p.wt ≤ 1048576) : Rn 37 [p] [p] := by
  obtain ⟨l, rfl, hl, he⟩ := wf_slice (e := 3) (by kernel_rfl) h
  simp at hw
  refine Is.of e37 ?_
  have hloop := loop_run (body := fun n => L37_0 (ev Tryd.prog sg n) n) (e := .x 0) (res := [.list l]) (fun i => [.int i, .list l, .list (l.take i ++ List.replicate (l.length - i) (PV.int (0 : Int)))]) l.length (fun i hi => ?_) (Evt.all fun n => ?_) (by simp)
  · refine hloop.mp fun n h => ?_
    simp at h
    simp (disch := omega) [F37, leT, geT, h]
  · refine Evt.all fun n => ?_
    simp (disch := omega) [L37_0, ltT, geT, wrap64, fill_set, hi]
  · simp (disch := omega) [L37_0, ltF]
theorem to_50 {p : PV} (h : WfT Tryd.prog 55 p) (hw : p.wt ≤ 1048576) : Rn 50 [p] [p] := by
  obtain ⟨x0, x1, x2, x3, rfl, xh0, xh1, xh2, xh3⟩ := wf55 h
  simp at hw
  have c0 := to_37 xh0 (by omega)
  exact Is.of e50 ((c0).mp fun n h => by simp [F50, h])
theorem to_24 {p : PV} (h : WfT Tryd.prog 58 p) (hw : p.wt ≤ 1048576) : Rn 24 [p] [p] := by
  obtain ⟨x0, x1, x2, x3, x4, x5, x6, rfl, xh0, xh1, xh2, xh3, xh4, xh5, xh6⟩ := wf58 h
  simp at hw
  have c0 := to_49 xh0 (by omega)
  have c1 := to_50 xh1 (by omega)
  have c2 := to_37 xh2 (by omega)
  have c3 := to_51 xh3 (by omega)
  have c4 := to_37 xh4 (by omega)
  exact Is.of e24 ((Evt.and (Evt.and (Evt.and (Evt.and (c0) c1) c2) c3) c4).mp fun n h => by simp [F24, h])
theorem eq_66 {p : PV} (h : WfT Tryd.prog 114 p) : Rn 66 [p, p] [.bool true] := by
  obtain ⟨x0, x1, x2, rfl, xh0, xh1, xh2⟩ := wf114 h
  exact Is.of e66 (Evt.all fun n => by simp [F66, neF])
theorem eq_55 {p : PV} (h : WfT Tryd.prog 56 p) : Rn 55 [p, p] [.bool true] := by
  obtain ⟨l, rfl, hl, he⟩ := wf_slice (e := 114) (by kernel_rfl) h
  have hm : maxLen = 9223372036854775807 := rfl
  have hloop := loop_run (body := fun n => L55_0 (ev Tryd.prog sg n) n) (e := .x 0) (res := []) (fun i => [.int i, .list l, .list l]) l.length (fun i hi => ?_) (Evt.all fun n => ?_) (by simp)
  · refine Is.of e55 (hloop.mp fun n h => ?_)
    simp at h
    simp (disch := omega) [F55, neF, h]
  · refine (eq_66 (he _ (nth_mem hi))).mp fun n h => ?_
    simp (disch := omega) [L55_0, ltT, geT, wrap64, h]
  · simp (disch := omega) [L55_0, ltF]
theorem eq_59 {p : PV} (h : WfT Tryd.prog 99 p) : Rn 59 [p, p] [.bool true] := by
  obtain ⟨x0, x1, x2, rfl, xh0, xh1, xh2⟩ := wf99 h
  exact Is.of e59 (Evt.all fun n => by simp [F59, neF])
theorem eq_33 {p : PV} (h : WfT Tryd.prog 22 p) : Rn 33 [p, p] [.bool true] := by
  obtain ⟨l, rfl, hl, he⟩ := wf_slice (e := 99) (by kernel_rfl) h
  have hm : maxLen = 9223372036854775807 := rfl
  have hloop := loop_run (body := fun n => L33_0 (ev Tryd.prog sg n) n) (e := .x 0) (res := []) (fun i => [.int i, .list l, .list l]) l.length (fun i hi => ?_) (Evt.all fun n => ?_) (by simp)
  · refine Is.of e33 (hloop.mp fun n h => ?_)
    simp at h
    simp (disch := omega) [F33, neF, h]
  · refine (eq_59 (he _ (nth_mem hi))).mp fun n h => ?_
    simp (disch := omega) [L33_0, ltT, geT, wrap64, h]
  · simp (disch := omega) [L33_0, ltF]
theorem eq_11 {p : PV} (h : WfT Tryd.prog 24 p) : Rn 11 [p, p] [.bool true] := by
  obtain ⟨x0, x1, rfl, xh0, xh1⟩ := wf24 h
  have c0 := eq_33 xh1
  exact Is.of e11 ((c0).mp fun n h => by simp [F11, neF, h])
theorem eq_53 {p : PV} (h : WfT Tryd.prog 53 p) : Rn 53 [p, p] [.bool true] := by
  obtain ⟨l, rfl, hl, he⟩ := wf_slice (e := 24) (by kernel_rfl) h
  have hm : maxLen = 9223372036854775807 := rfl
  have hloop := loop_run (body := fun n => L53_0 (ev Tryd.prog sg n) n) (e := .x 0) (res := []) (fun i => [.int i, .list l, .list l]) l.length (fun i hi => ?_) (Evt.all fun n => ?_) (by simp)
  · refine Is.of e53 (hloop.mp fun n h => ?_)
    simp at h
    simp (disch := omega) [F53, neF, h]
  · refine (eq_11 (he _ (nth_mem hi))).mp fun n h => ?_
    simp (disch := omega) [L53_0, ltT, geT, wrap64, h]
  · simp (disch := omega) [L53_0, ltF]
theorem eq_40 {p : PV} (h : WfT Tryd.prog 33 p) : Rn 40 [p, p] [.bool true] := by
  obtain ⟨l, rfl, hl, he⟩ := wf_slice (e := 3) (by kernel_rfl) h
  have hm : maxLen = 9223372036854775807 := rfl
  have hloop := loop_run (body := fun n => L40_0 (ev Tryd.prog sg n) n) (e := .x 0) (res := []) (fun i => [.int i, .list l, .list l]) l.length (fun i hi => ?_) (Evt.all fun n => ?_) (by simp)
  · refine Is.of e40 (hloop.mp fun n h => ?_)
    simp at h
    simp (disch := omega) [F40, neF, h]
  · refine Evt.all fun n => ?_
    simp (disch := omega) [L40_0, ltT, geT, wrap64, neF]
  · simp (disch := omega) [L40_0, ltF]
theorem eq_54 {p : PV} (h : WfT Tryd.prog 55 p) : Rn 54 [p, p] [.bool true] := by
  obtain ⟨x0, x1, x2, x3, rfl, xh0, xh1, xh2, xh3⟩ := wf55 h
  have c0 := eq_40 xh0
  exact Is.of e54 ((c0).mp fun n h => by simp [F54, neF, h])
theorem eq_26 {p : PV} (h : WfT Tryd.prog 58 p) : Rn 26 [p, p] [.bool true] := by
  obtain ⟨x0, x1, x2, x3, x4, x5, x6, rfl, xh0, xh1, xh2, xh3, xh4, xh5, xh6⟩ := wf58 h
  have c0 := eq_53 xh0
  have c1 := eq_54 xh1
  have c2 := eq_40 xh2
  have c3 := eq_55 xh3
  have c4 := eq_40 xh4
  exact Is.of e26 ((Evt.and (Evt.and (Evt.and (Evt.and (c0) c1) c2) c3) c4).mp fun n h => by simp [F26, neF, h])
end Go.Proofs.YtjaboelhknoamaaDoor.GFnExactVmText
