/- The helpers of the law FnExactEval: sizes, copies, comparisons, marks. Each under the conditions that it names. -/
import Derived.Test.YtdkfgnnebaahaaaGFnExactEval
import Derived.Test.YtdkfgnnebaahaaaRscZp
namespace Go.Proofs.Ytdkfgnnebaahaaa.GFnExactEval
open Go Go.Rsc Go.Proofs.Ytdkfgnnebaahaaa
set_option maxRecDepth 100000
set_option linter.unusedVariables false
set_option linter.unusedSimpArgs false
theorem size_mem {l : List PV} {x : PV} (h : x ∈ l) : SizeOf.sizeOf x < SizeOf.sizeOf (PV.list l) := by
  have := List.sizeOf_lt_of_mem h
  simp; omega
@[simp] theorem cmpS_ne (s : ByteArray) : cmpS BinOp.neq s s = false := by simp [cmpS]
abbrev Rn (f : FuncId) (a r : List PV) : Prop := Is Try.prog sg f a r
theorem wf24 {p : PV} (h : WfT Try.prog 24 p) : ∃ x0 x1 x2 x3 x4, p = .agg [PV.int x0, PV.int x1, PV.str x2, PV.str x3, x4] ∧ (-9223372036854775808 ≤ x0 ∧ x0 < 9223372036854775808) ∧ (-9223372036854775808 ≤ x1 ∧ x1 < 9223372036854775808) ∧ x2.size ≤ maxLen ∧ x3.size ≤ maxLen ∧ WfT Try.prog 22 x4 := by
  obtain ⟨l, rfl, hl, hf⟩ := wf_struct Try.underlying24 h
  obtain ⟨y0, y1, y2, y3, y4, rfl⟩ : ∃ y0 y1 y2 y3 y4, l = [y0, y1, y2, y3, y4] := by
    match l, hl with
    | [a0, a1, a2, a3, a4], _ => exact ⟨a0, a1, a2, a3, a4, rfl⟩
  have h0 := hf 0 _ _ rfl rfl
  obtain ⟨x0, rfl, r0⟩ := wf_int (k := .i64) (by kernel_rfl) h0
  have h1 := hf 1 _ _ rfl rfl
  obtain ⟨x1, rfl, r1⟩ := wf_int (k := .i64) (by kernel_rfl) h1
  have h2 := hf 2 _ _ rfl rfl
  obtain ⟨x2, rfl, r2⟩ := wf_str (by kernel_rfl) h2
  have h3 := hf 3 _ _ rfl rfl
  obtain ⟨x3, rfl, r3⟩ := wf_str (by kernel_rfl) h3
  have h4 := hf 4 _ _ rfl rfl
  exact ⟨x0, x1, x2, x3, y4, rfl, wf64 r0, wf64 r1, r2, r3, h4⟩
theorem mk24 {x0 : Int} {x1 : Int} {x2 : ByteArray} {x3 : ByteArray} {x4 : PV} (h0 : (-9223372036854775808 ≤ x0 ∧ x0 < 9223372036854775808)) (h1 : (-9223372036854775808 ≤ x1 ∧ x1 < 9223372036854775808)) (h2 : x2.size ≤ maxLen) (h3 : x3.size ≤ maxLen) (h4 : WfT Try.prog 22 x4) : WfT Try.prog 24 (.agg [PV.int x0, PV.int x1, PV.str x2, PV.str x3, x4]) := by
  refine .struct Try.underlying24 rfl fun i f q hf hq => ?_
  match i, hf, hq with
  | 0, hf, hq => obtain rfl := Option.some.inj hf; obtain rfl := Option.some.inj hq; exact .int (k := .i64) (by kernel_rfl) (wf_mk64 h0.1 h0.2)
  | 1, hf, hq => obtain rfl := Option.some.inj hf; obtain rfl := Option.some.inj hq; exact .int (k := .i64) (by kernel_rfl) (wf_mk64 h1.1 h1.2)
  | 2, hf, hq => obtain rfl := Option.some.inj hf; obtain rfl := Option.some.inj hq; exact .str (by kernel_rfl) h2
  | 3, hf, hq => obtain rfl := Option.some.inj hf; obtain rfl := Option.some.inj hq; exact .str (by kernel_rfl) h3
  | 4, hf, hq => obtain rfl := Option.some.inj hf; obtain rfl := Option.some.inj hq; exact h4
  | n + 5, hf, hq => simp at hq
theorem sz_4_of {p : PV} (h : WfT Try.prog 24 p) (IH : ∀ q, SizeOf.sizeOf q < SizeOf.sizeOf p → WfT Try.prog 22 q → ∀ {x : Int}, 0 ≤ x → x ≤ 1048576 → Rn 13 [q, .int x] [.int (szR x q.wt)]) {x : Int} (hx : 0 ≤ x) (hB : x ≤ 1048576) : Rn 4 [p, .int x] [.int (szR x p.wt)] := by
  obtain ⟨x0, x1, x2, x3, x4, rfl, xh0, xh1, xh2, xh3, xh4⟩ := wf24 h
  have hm : maxLen = 9223372036854775807 := rfl
  have w0 : IntKind.i64.wrap (x - (x2.size : Int)) = x - x2.size := wrap64 (by omega) (by omega)
  by_cases s0 : x - (x2.size : Int) < 0
  · have q : szR x (PV.agg [PV.int x0, PV.int x1, PV.str x2, PV.str x3, x4]).wt = -1 := szR_lt (by simp; omega)
    rw [q]
    exact Is.of e4 (Evt.all fun n => by simp [F4, w0, ltT s0])
  have w1 : IntKind.i64.wrap (x - x2.size - (x3.size : Int)) = x - x2.size - x3.size := wrap64 (by omega) (by omega)
  by_cases s1 : x - x2.size - (x3.size : Int) < 0
  · have q : szR x (PV.agg [PV.int x0, PV.int x1, PV.str x2, PV.str x3, x4]).wt = -1 := szR_lt (by simp; omega)
    rw [q]
    exact Is.of e4 (Evt.all fun n => by simp [F4, w0, ltF (Int.not_lt.1 s0), w1, ltT s1])
  have c2 := IH _ (by simp <;> omega) xh4 (x := x - x2.size - x3.size) (by omega) (by omega)
  by_cases s2 : szR (x - x2.size - x3.size) x4.wt < 0
  · have q : szR x (PV.agg [PV.int x0, PV.int x1, PV.str x2, PV.str x3, x4]).wt = -1 := szR_lt (by have := (szR_neg (w := x4.wt) (x := x - x2.size - x3.size) (by omega)).1 s2; simp; omega)
    rw [q]
    exact Is.of e4 ((c2).mp fun n h => by simp [F4, h, w0, ltF (Int.not_lt.1 s0), w1, ltF (Int.not_lt.1 s1), ltT s2])
  have g2 : (x4.wt : Int) ≤ x - x2.size - x3.size := by have := mt (szR_neg (w := x4.wt) (x := x - x2.size - x3.size) (by omega)).2 s2; omega
  have d2 : szR (x - x2.size - x3.size) x4.wt = x - x2.size - x3.size - x4.wt := szR_ge g2
  rw [d2] at c2 s2
  have q : szR x (PV.agg [PV.int x0, PV.int x1, PV.str x2, PV.str x3, x4]).wt = x - x2.size - x3.size - x4.wt := by rw [szR_ge (by simp <;> omega)]; simp <;> omega
  rw [q]
  exact Is.of e4 ((c2).mp fun n h => by simp [F4, h, w0, ltF (Int.not_lt.1 s0), w1, ltF (Int.not_lt.1 s1), ltF (Int.not_lt.1 s2)])
theorem sz_13_aux : ∀ (N : Nat) (p : PV), SizeOf.sizeOf p = N → WfT Try.prog 22 p → ∀ {x : Int}, 0 ≤ x → x ≤ 1048576 → Rn 13 [p, .int x] [.int (szR x p.wt)] := by
  intro N
  induction N using Nat.strongRecOn with
  | ind N ih =>
  intro p hN h x hx hB
  obtain ⟨l, rfl, hl, he⟩ := wf_slice (e := 24) (by kernel_rfl) h
  have hm : maxLen = 9223372036854775807 := rfl
  by_cases s : x - l.length < 0
  · rw [szR_lt (by simp; omega)]
    exact Is.of e13 (Evt.all fun n => by simp (disch := omega) [F13, wrap64, ltT])
  have hloop := sz_loop (body := fun n => L13_0 (ev Try.prog sg n) n) (pay := fun i y => [.int i, .list l, .int y]) (l := l) (B := 1048576) (fun i hi y h1 h2 => ?_) (fun y h1 => Evt.all fun n => ?_) (x - l.length) (by omega) (by omega)
  · have q : szR x (PV.list l).wt = szR (x - l.length) (PV.wts l) := by
      simp only [wt_list, szR]; push_cast
      by_cases hh : (PV.wts l : Int) ≤ x - l.length
      · rw [if_pos hh, if_pos (by omega)]; omega
      · rw [if_neg hh, if_neg (by omega)]
    rw [q]
    refine Is.of e13 (hloop.mp fun n h => ?_)
    simp only [show ((0 : Nat) : Int) = 0 from rfl] at h
    by_cases s2 : szR (x - l.length) (PV.wts l) < 0
    · have s3 := (szR_neg (by omega)).1 s2
      rw [if_pos s2] at h
      rw [szR_lt (by omega)]
      simp (disch := omega) [F13, wrap64, ltF, h]
    · rw [if_neg s2] at h
      simp (disch := omega) [F13, wrap64, ltF, h]
  · refine (sz_4_of (he _ (nth_mem hi)) (fun q hq hw => ih (SizeOf.sizeOf q) (by have := size_mem (nth_mem hi); omega) q rfl hw) h1 h2).mp fun n h => ?_
    by_cases s2 : szR y (nth l i).wt < 0
    · rw [if_pos s2]
      simp (disch := omega) [L13_0, ltT, geT, wrap64, h, hi]
    · rw [if_neg s2]
      simp (disch := omega) [L13_0, ltT, ltF, geT, wrap64, h, hi]
  · simp (disch := omega) [L13_0, ltF]
theorem sz_13 {p : PV} (h : WfT Try.prog 22 p) {x : Int} (hx : 0 ≤ x) (hB : x ≤ 1048576) : Rn 13 [p, .int x] [.int (szR x p.wt)] := by
  exact sz_13_aux _ _ rfl h hx hB
theorem sz_4 {p : PV} (h : WfT Try.prog 24 p) {x : Int} (hx : 0 ≤ x) (hB : x ≤ 1048576) : Rn 4 [p, .int x] [.int (szR x p.wt)] := by
  exact sz_4_of h (fun q _ hw => sz_13 hw) hx hB
theorem to_6_of {p : PV} (h : WfT Try.prog 24 p) (IH : ∀ q, SizeOf.sizeOf q < SizeOf.sizeOf p → WfT Try.prog 22 q → q.wt ≤ 1048576 → Rn 19 [q] [q]) (hw : p.wt ≤ 1048576) : Rn 6 [p] [p] := by
  obtain ⟨x0, x1, x2, x3, x4, rfl, xh0, xh1, xh2, xh3, xh4⟩ := wf24 h
  simp at hw
  have c0 := IH _ (by simp <;> omega) xh4 (by omega)
  exact Is.of e6 ((c0).mp fun n h => by simp [F6, h])
theorem to_19_aux : ∀ (N : Nat) (p : PV), SizeOf.sizeOf p = N → WfT Try.prog 22 p → p.wt ≤ 1048576 → Rn 19 [p] [p] := by
  intro N
  induction N using Nat.strongRecOn with
  | ind N ih =>
  intro p hN h hw
  obtain ⟨l, rfl, hl, he⟩ := wf_slice (e := 24) (by kernel_rfl) h
  simp at hw
  refine Is.of e19 ?_
  have hloop := loop_run (body := fun n => L19_0 (ev Try.prog sg n) n) (e := .x 0) (res := [.list l]) (fun i => [.int i, .list l, .list (l.take i ++ List.replicate (l.length - i) (PV.agg [(PV.int (0 : Int)), (PV.int (0 : Int)), (PV.str (⟨#[]⟩ : ByteArray)), (PV.str (⟨#[]⟩ : ByteArray)), (PV.list ([] : List PV))]))]) l.length (fun i hi => ?_) (Evt.all fun n => ?_) (by simp)
  · refine hloop.mp fun n h => ?_
    simp at h
    simp (disch := omega) [F19, leT, geT, h]
  · have hm := nth_mem hi
    refine (to_6_of (he _ hm) (fun q hq hw => ih (SizeOf.sizeOf q) (by have := size_mem hm; omega) q rfl hw) (by have := wt_mem hm; omega)).mp fun n h => ?_
    simp (disch := omega) [L19_0, ltT, geT, wrap64, h, fill_set, hi]
  · simp (disch := omega) [L19_0, ltF]
theorem to_19 {p : PV} (h : WfT Try.prog 22 p) (hw : p.wt ≤ 1048576) : Rn 19 [p] [p] := by
  exact to_19_aux _ _ rfl h hw
theorem to_6 {p : PV} (h : WfT Try.prog 24 p) (hw : p.wt ≤ 1048576) : Rn 6 [p] [p] := by
  exact to_6_of h (fun q _ hw hv => to_19 hw hv) hw
theorem eq_9_of {p : PV} (h : WfT Try.prog 24 p) (IH : ∀ q, SizeOf.sizeOf q < SizeOf.sizeOf p → WfT Try.prog 22 q → Rn 25 [q, q] [.bool true]) : Rn 9 [p, p] [.bool true] := by
  obtain ⟨x0, x1, x2, x3, x4, rfl, xh0, xh1, xh2, xh3, xh4⟩ := wf24 h
  have c0 := IH _ (by simp <;> omega) xh4
  exact Is.of e9 ((c0).mp fun n h => by simp [F9, neF, h])
theorem eq_25_aux : ∀ (N : Nat) (p : PV), SizeOf.sizeOf p = N → WfT Try.prog 22 p → Rn 25 [p, p] [.bool true] := by
  intro N
  induction N using Nat.strongRecOn with
  | ind N ih =>
  intro p hN h 
  obtain ⟨l, rfl, hl, he⟩ := wf_slice (e := 24) (by kernel_rfl) h
  have hm : maxLen = 9223372036854775807 := rfl
  have hloop := loop_run (body := fun n => L25_0 (ev Try.prog sg n) n) (e := .x 0) (res := []) (fun i => [.int i, .list l, .list l]) l.length (fun i hi => ?_) (Evt.all fun n => ?_) (by simp)
  · refine Is.of e25 (hloop.mp fun n h => ?_)
    simp at h
    simp (disch := omega) [F25, neF, h]
  · refine (eq_9_of (he _ (nth_mem hi)) (fun q hq hw => ih (SizeOf.sizeOf q) (by have := size_mem (nth_mem hi); omega) q rfl hw)).mp fun n h => ?_
    simp (disch := omega) [L25_0, ltT, geT, wrap64, h]
  · simp (disch := omega) [L25_0, ltF]
theorem eq_25 {p : PV} (h : WfT Try.prog 22 p) : Rn 25 [p, p] [.bool true] := by
  exact eq_25_aux _ _ rfl h 
theorem eq_9 {p : PV} (h : WfT Try.prog 24 p) : Rn 9 [p, p] [.bool true] := by
  exact eq_9_of h (fun q _ hw => eq_25 hw) 
theorem eq_24 {p : PV} (h : WfT Try.prog 29 p) : Rn 24 [p, p] [.bool true] := by
  obtain ⟨l, rfl, hl, he⟩ := wf_slice (e := 3) (by kernel_rfl) h
  have hm : maxLen = 9223372036854775807 := rfl
  have hloop := loop_run (body := fun n => L24_0 (ev Try.prog sg n) n) (e := .x 0) (res := []) (fun i => [.int i, .list l, .list l]) l.length (fun i hi => ?_) (Evt.all fun n => ?_) (by simp)
  · refine Is.of e24 (hloop.mp fun n h => ?_)
    simp at h
    simp (disch := omega) [F24, neF, h]
  · refine Evt.all fun n => ?_
    simp (disch := omega) [L24_0, ltT, geT, wrap64, neF]
  · simp (disch := omega) [L24_0, ltF]
theorem wf28 {p : PV} (h : WfT Try.prog 28 p) : ∃ x0 x1 x2, p = .agg [PV.int x0, PV.int x1, x2] ∧ (-9223372036854775808 ≤ x0 ∧ x0 < 9223372036854775808) ∧ (-9223372036854775808 ≤ x1 ∧ x1 < 9223372036854775808) ∧ WfT Try.prog 26 x2 := by
  obtain ⟨l, rfl, hl, hf⟩ := wf_struct Try.underlying28 h
  obtain ⟨y0, y1, y2, rfl⟩ : ∃ y0 y1 y2, l = [y0, y1, y2] := by
    match l, hl with
    | [a0, a1, a2], _ => exact ⟨a0, a1, a2, rfl⟩
  have h0 := hf 0 _ _ rfl rfl
  obtain ⟨x0, rfl, r0⟩ := wf_int (k := .i64) (by kernel_rfl) h0
  have h1 := hf 1 _ _ rfl rfl
  obtain ⟨x1, rfl, r1⟩ := wf_int (k := .i64) (by kernel_rfl) h1
  have h2 := hf 2 _ _ rfl rfl
  exact ⟨x0, x1, y2, rfl, wf64 r0, wf64 r1, h2⟩
theorem mk28 {x0 : Int} {x1 : Int} {x2 : PV} (h0 : (-9223372036854775808 ≤ x0 ∧ x0 < 9223372036854775808)) (h1 : (-9223372036854775808 ≤ x1 ∧ x1 < 9223372036854775808)) (h2 : WfT Try.prog 26 x2) : WfT Try.prog 28 (.agg [PV.int x0, PV.int x1, x2]) := by
  refine .struct Try.underlying28 rfl fun i f q hf hq => ?_
  match i, hf, hq with
  | 0, hf, hq => obtain rfl := Option.some.inj hf; obtain rfl := Option.some.inj hq; exact .int (k := .i64) (by kernel_rfl) (wf_mk64 h0.1 h0.2)
  | 1, hf, hq => obtain rfl := Option.some.inj hf; obtain rfl := Option.some.inj hq; exact .int (k := .i64) (by kernel_rfl) (wf_mk64 h1.1 h1.2)
  | 2, hf, hq => obtain rfl := Option.some.inj hf; obtain rfl := Option.some.inj hq; exact h2
  | n + 3, hf, hq => simp at hq
theorem eq_23_of {p : PV} (h : WfT Try.prog 28 p) (IH : ∀ q, SizeOf.sizeOf q < SizeOf.sizeOf p → WfT Try.prog 26 q → Rn 47 [q, q] [.bool true]) : Rn 23 [p, p] [.bool true] := by
  obtain ⟨x0, x1, x2, rfl, xh0, xh1, xh2⟩ := wf28 h
  have c0 := IH _ (by simp <;> omega) xh2
  exact Is.of e23 ((c0).mp fun n h => by simp [F23, neF, h])
theorem eq_47_aux : ∀ (N : Nat) (p : PV), SizeOf.sizeOf p = N → WfT Try.prog 26 p → Rn 47 [p, p] [.bool true] := by
  intro N
  induction N using Nat.strongRecOn with
  | ind N ih =>
  intro p hN h 
  obtain ⟨l, rfl, hl, he⟩ := wf_slice (e := 28) (by kernel_rfl) h
  have hm : maxLen = 9223372036854775807 := rfl
  have hloop := loop_run (body := fun n => L47_0 (ev Try.prog sg n) n) (e := .x 0) (res := []) (fun i => [.int i, .list l, .list l]) l.length (fun i hi => ?_) (Evt.all fun n => ?_) (by simp)
  · refine Is.of e47 (hloop.mp fun n h => ?_)
    simp at h
    simp (disch := omega) [F47, neF, h]
  · refine (eq_23_of (he _ (nth_mem hi)) (fun q hq hw => ih (SizeOf.sizeOf q) (by have := size_mem (nth_mem hi); omega) q rfl hw)).mp fun n h => ?_
    simp (disch := omega) [L47_0, ltT, geT, wrap64, h]
  · simp (disch := omega) [L47_0, ltF]
theorem eq_47 {p : PV} (h : WfT Try.prog 26 p) : Rn 47 [p, p] [.bool true] := by
  exact eq_47_aux _ _ rfl h 
theorem eq_23 {p : PV} (h : WfT Try.prog 28 p) : Rn 23 [p, p] [.bool true] := by
  exact eq_23_of h (fun q _ hw => eq_47 hw) 
theorem wf31 {p : PV} (h : WfT Try.prog 31 p) : ∃ x0 x1 x2, p = .agg [PV.int x0, x1, x2] ∧ (-9223372036854775808 ≤ x0 ∧ x0 < 9223372036854775808) ∧ WfT Try.prog 28 x1 ∧ WfT Try.prog 29 x2 := by
  obtain ⟨l, rfl, hl, hf⟩ := wf_struct Try.underlying31 h
  obtain ⟨y0, y1, y2, rfl⟩ : ∃ y0 y1 y2, l = [y0, y1, y2] := by
    match l, hl with
    | [a0, a1, a2], _ => exact ⟨a0, a1, a2, rfl⟩
  have h0 := hf 0 _ _ rfl rfl
  obtain ⟨x0, rfl, r0⟩ := wf_int (k := .i64) (by kernel_rfl) h0
  have h1 := hf 1 _ _ rfl rfl
  have h2 := hf 2 _ _ rfl rfl
  exact ⟨x0, y1, y2, rfl, wf64 r0, h1, h2⟩
theorem mk31 {x0 : Int} {x1 : PV} {x2 : PV} (h0 : (-9223372036854775808 ≤ x0 ∧ x0 < 9223372036854775808)) (h1 : WfT Try.prog 28 x1) (h2 : WfT Try.prog 29 x2) : WfT Try.prog 31 (.agg [PV.int x0, x1, x2]) := by
  refine .struct Try.underlying31 rfl fun i f q hf hq => ?_
  match i, hf, hq with
  | 0, hf, hq => obtain rfl := Option.some.inj hf; obtain rfl := Option.some.inj hq; exact .int (k := .i64) (by kernel_rfl) (wf_mk64 h0.1 h0.2)
  | 1, hf, hq => obtain rfl := Option.some.inj hf; obtain rfl := Option.some.inj hq; exact h1
  | 2, hf, hq => obtain rfl := Option.some.inj hf; obtain rfl := Option.some.inj hq; exact h2
  | n + 3, hf, hq => simp at hq
theorem eq_8 {p : PV} (h : WfT Try.prog 31 p) : Rn 8 [p, p] [.bool true] := by
  obtain ⟨x0, x1, x2, rfl, xh0, xh1, xh2⟩ := wf31 h
  have c0 := eq_23 xh1
  have c1 := eq_24 xh2
  exact Is.of e8 ((Evt.and (c0) c1).mp fun n h => by simp [F8, neF, h])
-- mark of a struct: Text
mutual
inductive Gd24 : Int → PV → PV → Prop
  | mk {k : Int} {p : PV} {y0 : List PV} : (h0 : Gd24L (k + (nth p.toAgg 0).cn + (nth p.toAgg 1).cn + (nth p.toAgg 2).cn + (nth p.toAgg 3).cn) (nth p.toAgg 4).toList y0) → Gd24 k p (PV.agg [PV.int (k), PV.int (k + (nth p.toAgg 0).cn), PV.unit, PV.unit, PV.list y0])
inductive Gd24L : Int → List PV → List PV → Prop
  | nil {k : Int} : Gd24L k [] []
  | cons {k : Int} {x y : PV} {l m : List PV} : Gd24 k x y → Gd24L (k + x.cn) l m → Gd24L k (x :: l) (y :: m)
end
def gd24 (k : Int) (p q : PV) : Prop := Gd24 k p q
theorem Gd24L_of : ∀ {k : Int} {l m : List PV}, Goods gd24 k l m → Gd24L k l m
  | _, [], [], _ => .nil
  | _, _ :: _, _ :: _, h => .cons h.1 (Gd24L_of h.2)
  | _, [], _ :: _, h => h.elim
  | _, _ :: _, [], h => h.elim
theorem Gd24L_to : ∀ {k : Int} {l m : List PV}, Gd24L k l m → Goods gd24 k l m
  | _, [], [], _ => trivial
  | _, _ :: _, _ :: _, .cons h1 h2 => ⟨h1, Gd24L_to h2⟩
theorem gd24_out {k : Int} {p q : PV} (h : gd24 k p q) : ∃ y0, q = PV.agg [PV.int (k), PV.int (k + (nth p.toAgg 0).cn), PV.unit, PV.unit, PV.list y0] ∧ Goods gd24 (k + (nth p.toAgg 0).cn + (nth p.toAgg 1).cn + (nth p.toAgg 2).cn + (nth p.toAgg 3).cn) (nth p.toAgg 4).toList y0 := by
  cases h with
  | mk h0 => exact ⟨_, rfl, Gd24L_to h0⟩
theorem gd24_in {k : Int} {p q : PV} (h : ∃ y0, q = PV.agg [PV.int (k), PV.int (k + (nth p.toAgg 0).cn), PV.unit, PV.unit, PV.list y0] ∧ Goods gd24 (k + (nth p.toAgg 0).cn + (nth p.toAgg 1).cn + (nth p.toAgg 2).cn + (nth p.toAgg 3).cn) (nth p.toAgg 4).toList y0) : gd24 k p q := by
  obtain ⟨y0, rfl, h0⟩ := h
  exact .mk (Gd24L_of h0)
theorem cn_22_aux : ∀ (N : Nat) (p : PV), SizeOf.sizeOf p = N → WfT Try.prog 22 p → p.cn ≤ 64 * p.wt := by
  intro N
  induction N using Nat.strongRecOn with
  | ind N ih =>
  intro p hN h 
  subst hN
  obtain ⟨l, rfl, hl, he⟩ := wf_slice (e := 24) (by kernel_rfl) h
  have h1 := cns_le (S := 64) (l := l) fun q hxm => by
    have hx := he q hxm
    obtain ⟨x0, x1, x2, x3, x4, rfl, xh0, xh1, xh2, xh3, xh4⟩ := wf24 hx
    have c4 := ih _ (by have := size_mem hxm; simp at this ⊢; omega) _ rfl xh4
    try simp only [cn_agg, cns_cons, cns_nil, wt_agg, wts_cons, wts_nil, cn_int, wt_int, cn_bool, wt_bool, cn_str, wt_str]
    omega
  simp only [cn_list, wt_list]
  omega
theorem cn_22 {p : PV} (h : WfT Try.prog 22 p) : p.cn ≤ 64 * p.wt := by
  exact cn_22_aux _ _ rfl h
def sn24 (p : PV) : Nat := (nth p.toAgg 4).cn
def gs24 (k : Int) (p q : PV) : Prop := ∃ (y4 : List PV), q = .agg [(nth p.toAgg 0), (nth p.toAgg 1), (nth p.toAgg 2), (nth p.toAgg 3), .list y4] ∧ Goods gd24 (k) (nth p.toAgg 4).toList y4
theorem sn24_le {p : PV} (h : WfT Try.prog 24 p) : sn24 p ≤ 64 * p.wt := by
  obtain ⟨x0, x1, x2, x3, x4, rfl, xh0, xh1, xh2, xh3, xh4⟩ := wf24 h
  have c4 := cn_22 xh4
  simp [sn24]
  omega
def gd3 (k : Int) (p q : PV) : Prop := q = PV.int (k)
theorem cn_29 {p : PV} (h : WfT Try.prog 29 p) : p.cn ≤ 64 * p.wt := by
  obtain ⟨l, rfl, hl, he⟩ := wf_slice (e := 3) (by kernel_rfl) h
  have h1 := cns_le (S := 64) (l := l) fun q hxm => by
    have hx := he q hxm
    obtain ⟨x0, rfl, xr⟩ := wf_int (k := .i64) (by kernel_rfl) hx
    have xr := wf64 xr
    try simp only [cn_agg, cns_cons, cns_nil, wt_agg, wts_cons, wts_nil, cn_int, wt_int, cn_bool, wt_bool, cn_str, wt_str]
    omega
  simp only [cn_list, wt_list]
  omega
theorem mark_28 {p : PV} (h : WfT Try.prog 29 p) {k : Int} (hk : 0 ≤ k) (hB : k + p.cn ≤ 1099511627776) : ∃ m, Goods gd3 k p.toList m ∧ Rn 28 [p, .int k] [.int (k + p.cn), .list m] := by
  obtain ⟨l, rfl, hl, he⟩ := wf_slice (e := 3) (by kernel_rfl) h
  have hm : maxLen = 9223372036854775807 := rfl
  simp only [cn_list] at hB
  have key := mark_loop (body := fun n => L28_0 (ev Try.prog sg n) n) (pay := fun i k m => [.int i, .int k, .list m]) (res := fun k m => [.list m, .int k]) (good := gd3) (B := 1099511627776) (l := l) (fun d r x k hxm hlen h1 h2 => ?_) (fun k m hlen => Evt.all fun n => ?_) k hk hB
  · obtain ⟨m, hg, hloop⟩ := key
    refine ⟨m, hg, Is.of e28 (hloop.mp fun n h => ?_)⟩
    simp at h
    simp [F28, h]
  · have hx := he x hxm
    obtain ⟨x0, rfl, xr⟩ := wf_int (k := .i64) (by kernel_rfl) hx
    have xr := wf64 xr
    simp at hlen h2
    refine ⟨_, rfl, Evt.all fun n => ?_⟩
    simp (disch := omega) [L28_0, ltT, geT, wrap64, nth_mid, set_mid]
    try omega
  · simp (disch := omega) [L28_0, ltF, hlen]
theorem mark_4124 {p : PV} (h : WfT Try.prog 29 p) {k : Int} (hk : 0 ≤ k) (hB : k + p.cn ≤ 1099511627776) : ∃ m, Goods gd3 k p.toList m ∧ Rn 4124 [p, .int k] [.int (k + p.cn)] := by
  obtain ⟨l, rfl, hl, he⟩ := wf_slice (e := 3) (by kernel_rfl) h
  have hm : maxLen = 9223372036854775807 := rfl
  simp only [cn_list] at hB
  have key := mark_loop (body := fun n => L4124_0 (ev Try.prog sg n) n) (pay := fun i k m => [.int i, .list m, .int k]) (res := fun k m => [.int k]) (good := gd3) (B := 1099511627776) (l := l) (fun d r x k hxm hlen h1 h2 => ?_) (fun k m hlen => Evt.all fun n => ?_) k hk hB
  · obtain ⟨m, hg, hloop⟩ := key
    refine ⟨m, hg, Is.of e4124 (hloop.mp fun n h => ?_)⟩
    simp at h
    simp [F4124, h]
  · have hx := he x hxm
    obtain ⟨x0, rfl, xr⟩ := wf_int (k := .i64) (by kernel_rfl) hx
    have xr := wf64 xr
    simp at hlen h2
    refine ⟨_, rfl, Evt.all fun n => ?_⟩
    simp (disch := omega) [L4124_0, ltT, geT, wrap64, nth_mid, set_mid]
    try omega
  · simp (disch := omega) [L4124_0, ltF, hlen]
mutual
inductive Gd28 : Int → PV → PV → Prop
  | mk {k : Int} {p : PV} {y0 : List PV} : (h0 : Gd28L (k + (nth p.toAgg 0).cn + (nth p.toAgg 1).cn) (nth p.toAgg 2).toList y0) → Gd28 k p (PV.agg [PV.int (k), PV.int (k + (nth p.toAgg 0).cn), PV.list y0])
inductive Gd28L : Int → List PV → List PV → Prop
  | nil {k : Int} : Gd28L k [] []
  | cons {k : Int} {x y : PV} {l m : List PV} : Gd28 k x y → Gd28L (k + x.cn) l m → Gd28L k (x :: l) (y :: m)
end
def gd28 (k : Int) (p q : PV) : Prop := Gd28 k p q
theorem Gd28L_of : ∀ {k : Int} {l m : List PV}, Goods gd28 k l m → Gd28L k l m
  | _, [], [], _ => .nil
  | _, _ :: _, _ :: _, h => .cons h.1 (Gd28L_of h.2)
  | _, [], _ :: _, h => h.elim
  | _, _ :: _, [], h => h.elim
theorem Gd28L_to : ∀ {k : Int} {l m : List PV}, Gd28L k l m → Goods gd28 k l m
  | _, [], [], _ => trivial
  | _, _ :: _, _ :: _, .cons h1 h2 => ⟨h1, Gd28L_to h2⟩
theorem gd28_out {k : Int} {p q : PV} (h : gd28 k p q) : ∃ y0, q = PV.agg [PV.int (k), PV.int (k + (nth p.toAgg 0).cn), PV.list y0] ∧ Goods gd28 (k + (nth p.toAgg 0).cn + (nth p.toAgg 1).cn) (nth p.toAgg 2).toList y0 := by
  cases h with
  | mk h0 => exact ⟨_, rfl, Gd28L_to h0⟩
theorem gd28_in {k : Int} {p q : PV} (h : ∃ y0, q = PV.agg [PV.int (k), PV.int (k + (nth p.toAgg 0).cn), PV.list y0] ∧ Goods gd28 (k + (nth p.toAgg 0).cn + (nth p.toAgg 1).cn) (nth p.toAgg 2).toList y0) : gd28 k p q := by
  obtain ⟨y0, rfl, h0⟩ := h
  exact .mk (Gd28L_of h0)
theorem cn_26_aux : ∀ (N : Nat) (p : PV), SizeOf.sizeOf p = N → WfT Try.prog 26 p → p.cn ≤ 64 * p.wt := by
  intro N
  induction N using Nat.strongRecOn with
  | ind N ih =>
  intro p hN h 
  subst hN
  obtain ⟨l, rfl, hl, he⟩ := wf_slice (e := 28) (by kernel_rfl) h
  have h1 := cns_le (S := 64) (l := l) fun q hxm => by
    have hx := he q hxm
    obtain ⟨x0, x1, x2, rfl, xh0, xh1, xh2⟩ := wf28 hx
    have c2 := ih _ (by have := size_mem hxm; simp at this ⊢; omega) _ rfl xh2
    try simp only [cn_agg, cns_cons, cns_nil, wt_agg, wts_cons, wts_nil, cn_int, wt_int, cn_bool, wt_bool, cn_str, wt_str]
    omega
  simp only [cn_list, wt_list]
  omega
theorem cn_26 {p : PV} (h : WfT Try.prog 26 p) : p.cn ≤ 64 * p.wt := by
  exact cn_26_aux _ _ rfl h
theorem mark_49_aux : ∀ (N : Nat) (p : PV), SizeOf.sizeOf p = N → WfT Try.prog 26 p → ∀ {k : Int}, 0 ≤ k → k + p.cn ≤ 1099511627776 → ∃ m, Goods gd28 k p.toList m ∧ Rn 49 [p, .int k] [.int (k + p.cn), .list m] := by
  intro N
  induction N using Nat.strongRecOn with
  | ind N ih =>
  intro p hN h k hk hB
  subst hN
  obtain ⟨l, rfl, hl, he⟩ := wf_slice (e := 28) (by kernel_rfl) h
  have hm : maxLen = 9223372036854775807 := rfl
  simp only [cn_list] at hB
  have key := mark_loop (body := fun n => L49_0 (ev Try.prog sg n) n) (pay := fun i k m => [.int i, .int k, .list m]) (res := fun k m => [.list m, .int k]) (good := gd28) (B := 1099511627776) (l := l) (fun d r x k hxm hlen h1 h2 => ?_) (fun k m hlen => Evt.all fun n => ?_) k hk hB
  · obtain ⟨m, hg, hloop⟩ := key
    refine ⟨m, hg, Is.of e49 (hloop.mp fun n h => ?_)⟩
    simp at h
    simp [F49, h]
  · have hx := he x hxm
    obtain ⟨x0, x1, x2, rfl, xh0, xh1, xh2⟩ := wf28 hx
    obtain ⟨l2, rfl, hl2, he2⟩ := wf_slice (e := 28) (by kernel_rfl) xh2
    simp at hlen h2
    obtain ⟨y2, g2, c0⟩ := ih _ (by have := size_mem hxm; simp at this ⊢; omega) _ rfl xh2 (k := k + 1 + 1) (by omega) (by simp; omega)
    refine ⟨_, gd28_in ⟨y2, rfl, by simpa using g2⟩, (c0).mp fun n h => ?_⟩
    simp at h
    simp (disch := omega) [L49_0, ltT, geT, wrap64, nth_mid, set_mid, h]
    try omega
  · simp (disch := omega) [L49_0, ltF, hlen]
theorem mark_49 {p : PV} (h : WfT Try.prog 26 p) {k : Int} (hk : 0 ≤ k) (hB : k + p.cn ≤ 1099511627776) : ∃ m, Goods gd28 k p.toList m ∧ Rn 49 [p, .int k] [.int (k + p.cn), .list m] := by
  exact mark_49_aux _ _ rfl h hk hB
def sn28 (p : PV) : Nat := (nth p.toAgg 2).cn
def gs28 (k : Int) (p q : PV) : Prop := ∃ (y2 : List PV), q = .agg [(nth p.toAgg 0), (nth p.toAgg 1), .list y2] ∧ Goods gd28 (k) (nth p.toAgg 2).toList y2
theorem sn28_le {p : PV} (h : WfT Try.prog 28 p) : sn28 p ≤ 64 * p.wt := by
  obtain ⟨x0, x1, x2, rfl, xh0, xh1, xh2⟩ := wf28 h
  have c2 := cn_26 xh2
  simp [sn28]
  omega
theorem mark_27 {p : PV} (h : WfT Try.prog 28 p) {k : Int} (hk : 0 ≤ k) (hB : k + sn28 p ≤ 1099511627776) : ∃ q, gs28 k p q ∧ Rn 27 [p, .int k] [.int (k + sn28 p), q] := by
  obtain ⟨x0, x1, x2, rfl, xh0, xh1, xh2⟩ := wf28 h
  simp [sn28] at hB
  obtain ⟨y2, g2, c0⟩ := mark_49 xh2 (k := k) (by omega) (by omega)
  refine ⟨_, ⟨y2, rfl, by simpa using g2⟩, Is.of e27 ((c0).mp fun n h => ?_)⟩
  simp [F27, h, sn28]
  try omega
def sn31 (p : PV) : Nat := (sn28 (nth p.toAgg 1)) + (nth p.toAgg 2).cn
def gs31 (k : Int) (p q : PV) : Prop := ∃ (y1 : PV) (y2 : List PV), q = .agg [(nth p.toAgg 0), y1, .list y2] ∧ gs28 (k) (nth p.toAgg 1) y1 ∧ Goods gd3 (k + (sn28 (nth p.toAgg 1))) (nth p.toAgg 2).toList y2
theorem sn31_le {p : PV} (h : WfT Try.prog 31 p) : sn31 p ≤ 64 * p.wt := by
  obtain ⟨x0, x1, x2, rfl, xh0, xh1, xh2⟩ := wf31 h
  have c1 := sn28_le xh1
  have c2 := cn_29 xh2
  simp [sn31]
  omega
theorem mark_11 {p : PV} (h : WfT Try.prog 31 p) {k : Int} (hk : 0 ≤ k) (hB : k + sn31 p ≤ 1099511627776) : ∃ q, gs31 k p q ∧ Rn 11 [p, .int k] [.int (k + sn31 p), q] := by
  obtain ⟨x0, x1, x2, rfl, xh0, xh1, xh2⟩ := wf31 h
  simp [sn31] at hB
  obtain ⟨y1, g1, c0⟩ := mark_27 xh1 (k := k) (by omega) (by omega)
  obtain ⟨y2, g2, c1⟩ := mark_28 xh2 (k := k + (sn28 x1 : Nat)) (by omega) (by omega)
  refine ⟨_, ⟨y1, y2, rfl, by simpa using g1, by simpa using g2⟩, Is.of e11 ((Evt.and (c0) c1).mp fun n h => ?_)⟩
  simp [F11, h, sn31]
  try omega
theorem mark_4107 {p : PV} (h : WfT Try.prog 31 p) {k : Int} (hk : 0 ≤ k) (hB : k + sn31 p ≤ 1099511627776) : ∃ q, gs31 k p q ∧ Rn 4107 [p, .int k] [.int (k + sn31 p)] := by
  obtain ⟨x0, x1, x2, rfl, xh0, xh1, xh2⟩ := wf31 h
  simp [sn31] at hB
  obtain ⟨y1, g1, c0⟩ := mark_27 xh1 (k := k) (by omega) (by omega)
  obtain ⟨y2, g2, c1⟩ := mark_28 xh2 (k := k + (sn28 x1 : Nat)) (by omega) (by omega)
  refine ⟨_, ⟨y1, y2, rfl, by simpa using g1, by simpa using g2⟩, Is.of e4107 ((Evt.and (c0) c1).mp fun n h => ?_)⟩
  simp [F4107, h, sn31]
  try omega
theorem mark_4123 {p : PV} (h : WfT Try.prog 28 p) {k : Int} (hk : 0 ≤ k) (hB : k + sn28 p ≤ 1099511627776) : ∃ q, gs28 k p q ∧ Rn 4123 [p, .int k] [.int (k + sn28 p)] := by
  obtain ⟨x0, x1, x2, rfl, xh0, xh1, xh2⟩ := wf28 h
  simp [sn28] at hB
  obtain ⟨y2, g2, c0⟩ := mark_49 xh2 (k := k) (by omega) (by omega)
  refine ⟨_, ⟨y2, rfl, by simpa using g2⟩, Is.of e4123 ((c0).mp fun n h => ?_)⟩
  simp [F4123, h, sn28]
  try omega
theorem mark_4145 {p : PV} (h : WfT Try.prog 26 p) {k : Int} (hk : 0 ≤ k) (hB : k + p.cn ≤ 1099511627776) : ∃ m, Goods gd28 k p.toList m ∧ Rn 4145 [p, .int k] [.int (k + p.cn)] := by
  obtain ⟨l, rfl, hl, he⟩ := wf_slice (e := 28) (by kernel_rfl) h
  have hm : maxLen = 9223372036854775807 := rfl
  simp only [cn_list] at hB
  have key := mark_loop (body := fun n => L4145_0 (ev Try.prog sg n) n) (pay := fun i k m => [.int i, .list m, .int k]) (res := fun k m => [.int k]) (good := gd28) (B := 1099511627776) (l := l) (fun d r x k hxm hlen h1 h2 => ?_) (fun k m hlen => Evt.all fun n => ?_) k hk hB
  · obtain ⟨m, hg, hloop⟩ := key
    refine ⟨m, hg, Is.of e4145 (hloop.mp fun n h => ?_)⟩
    simp at h
    simp [F4145, h]
  · have hx := he x hxm
    obtain ⟨x0, x1, x2, rfl, xh0, xh1, xh2⟩ := wf28 hx
    obtain ⟨l2, rfl, hl2, he2⟩ := wf_slice (e := 28) (by kernel_rfl) xh2
    simp at hlen h2
    obtain ⟨y2, g2, c0⟩ := mark_49 xh2 (k := k + 1 + 1) (by omega) (by simp; omega)
    refine ⟨_, gd28_in ⟨y2, rfl, by simpa using g2⟩, (c0).mp fun n h => ?_⟩
    simp at h
    simp (disch := omega) [L4145_0, ltT, geT, wrap64, nth_mid, set_mid, h]
    try omega
  · simp (disch := omega) [L4145_0, ltF, hlen]
theorem held_30 {p : PV} (h : WfT Try.prog 29 p) {m : List PV} {k : Int} (hk : 0 ≤ k) (hB : k + p.cn ≤ 1099511627776) (hg : Goods gd3 k p.toList m) : Rn 30 [.list m, .int k] [.int (k + p.cn)] := by
  obtain ⟨l, rfl, hl, he⟩ := wf_slice (e := 3) (by kernel_rfl) h
  have hm : maxLen = 9223372036854775807 := rfl
  simp only [cn_list] at hB
  have hlen := hg.len
  simp only [toList_list] at hlen
  have hloop := held_loop (body := fun n => L30_0 (ev Try.prog sg n) n) (pay := fun i k => [.int i, .list m, .int k]) (good := fun k x y => x ∈ l ∧ gd3 k x y) (B := 1099511627776) (l := l) (m := m) hlen (fun i k x hi hgx h1 h2 => ?_) (fun k => Evt.all fun n => ?_) k hk hB (Goods.mem hg)
  · refine Is.of e30 (hloop.mp fun n h => ?_)
    simp at h
    simp [F30, h]
  · obtain ⟨hxm, hgx⟩ := hgx
    have hx := he x hxm
    obtain ⟨x0, rfl, xr⟩ := wf_int (k := .i64) (by kernel_rfl) hx
    have xr := wf64 xr
    simp at h2
    have hgx : nth m i = _ := hgx
    try simp at hgx
    refine Evt.all fun n => ?_
    simp (disch := omega) [L30_0, ltT, geT, wrap64, neF, hgx]
    try omega
  · simp (disch := omega) [L30_0, ltF]
theorem held_50_aux : ∀ (N : Nat) (p : PV), SizeOf.sizeOf p = N → WfT Try.prog 26 p → ∀ {m : List PV} {k : Int}, 0 ≤ k → k + p.cn ≤ 1099511627776 → Goods gd28 k p.toList m → Rn 50 [.list m, .int k] [.int (k + p.cn)] := by
  intro N
  induction N using Nat.strongRecOn with
  | ind N ih =>
  intro p hN h m k hk hB hg
  subst hN
  obtain ⟨l, rfl, hl, he⟩ := wf_slice (e := 28) (by kernel_rfl) h
  have hm : maxLen = 9223372036854775807 := rfl
  simp only [cn_list] at hB
  have hlen := hg.len
  simp only [toList_list] at hlen
  have hloop := held_loop (body := fun n => L50_0 (ev Try.prog sg n) n) (pay := fun i k => [.int i, .list m, .int k]) (good := fun k x y => x ∈ l ∧ gd28 k x y) (B := 1099511627776) (l := l) (m := m) hlen (fun i k x hi hgx h1 h2 => ?_) (fun k => Evt.all fun n => ?_) k hk hB (Goods.mem hg)
  · refine Is.of e50 (hloop.mp fun n h => ?_)
    simp at h
    simp [F50, h]
  · obtain ⟨hxm, hgx⟩ := hgx
    have hx := he x hxm
    obtain ⟨x0, x1, x2, rfl, xh0, xh1, xh2⟩ := wf28 hx
    obtain ⟨l2, rfl, hl2, he2⟩ := wf_slice (e := 28) (by kernel_rfl) xh2
    simp at h2
    obtain ⟨y2, hgx, g2⟩ := gd28_out hgx
    have c0 := ih _ (by have := size_mem hxm; simp at this ⊢; omega) _ rfl xh2 (k := k + 1 + 1) (by omega) (by simp; omega) (by simpa using g2)
    refine (c0).mp fun n h => ?_
    simp at h hgx
    simp (disch := omega) [L50_0, ltT, ltF, geT, wrap64, neF, hgx, h]
    try omega
  · simp (disch := omega) [L50_0, ltF]
theorem held_50 {p : PV} (h : WfT Try.prog 26 p) {m : List PV} {k : Int} (hk : 0 ≤ k) (hB : k + p.cn ≤ 1099511627776) (hg : Goods gd28 k p.toList m) : Rn 50 [.list m, .int k] [.int (k + p.cn)] := by
  exact held_50_aux _ _ rfl h hk hB hg
theorem held_29 {p : PV} (h : WfT Try.prog 28 p) {q : PV} {k : Int} (hk : 0 ≤ k) (hB : k + sn28 p ≤ 1099511627776) (hg : gs28 k p q) : Rn 29 [q, .int k] [.int (k + sn28 p)] := by
  obtain ⟨x0, x1, x2, rfl, xh0, xh1, xh2⟩ := wf28 h
  simp [sn28] at hB
  obtain ⟨y2, rfl, g2⟩ := hg
  have c0 := held_50 xh2 (k := k) (by omega) (by omega) (by simpa using g2)
  have nn : ∀ (a : Int) (b : Nat), 0 ≤ a → ¬ a + (b : Int) < 0 := fun a b h => by omega
  refine Is.of e29 ((c0).mp fun n h => ?_)
  simp (disch := omega) [F29, h, sn28, ltF]
  try omega
theorem held_12 {p : PV} (h : WfT Try.prog 31 p) {q : PV} {k : Int} (hk : 0 ≤ k) (hB : k + sn31 p ≤ 1099511627776) (hg : gs31 k p q) : Rn 12 [q, .int k] [.int (k + sn31 p)] := by
  obtain ⟨x0, x1, x2, rfl, xh0, xh1, xh2⟩ := wf31 h
  simp [sn31] at hB
  obtain ⟨y1, y2, rfl, g1, g2⟩ := hg
  have c0 := held_29 xh1 (k := k) (by omega) (by omega) (by simpa using g1)
  have c1 := held_30 xh2 (k := k + (sn28 x1 : Nat)) (by omega) (by omega) (by simpa using g2)
  have nn : ∀ (a : Int) (b : Nat), 0 ≤ a → ¬ a + (b : Int) < 0 := fun a b h => by omega
  refine Is.of e12 ((Evt.and (c0) c1).mp fun n h => ?_)
  simp (disch := omega) [F12, h, sn31, ltF]
  try omega
end Go.Proofs.Ytdkfgnnebaahaaa.GFnExactEval
