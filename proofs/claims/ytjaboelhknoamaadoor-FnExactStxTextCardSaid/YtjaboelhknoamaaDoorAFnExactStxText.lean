/- The helpers of the law FnExactStxText: sizes, copies, comparisons, marks. Each under the conditions that it names. -/
import Derived.Test.YtjaboelhknoamaaDoorGFnExactStxText
import Derived.Test.YtjaboelhknoamaaDoorRscZp
namespace Go.Proofs.YtjaboelhknoamaaDoor.GFnExactStxText
open Go Go.Rsc Go.Proofs.YtjaboelhknoamaaDoor
set_option maxRecDepth 100000
set_option linter.unusedVariables false
set_option linter.unusedSimpArgs false
theorem size_mem {l : List PV} {x : PV} (h : x ∈ l) : SizeOf.sizeOf x < SizeOf.sizeOf (PV.list l) := by
  have := List.sizeOf_lt_of_mem h
  simp; omega
@[simp] theorem cmpS_ne (s : ByteArray) : cmpS BinOp.neq s s = false := by simp [cmpS]
abbrev Rn (f : FuncId) (a r : List PV) : Prop := Is Tryd.prog sg f a r
theorem sz_34 {p : PV} (h : WfT Tryd.prog 33 p) {x : Int} (hx : 0 ≤ x) (hB : x ≤ 1048576) : Rn 34 [p, .int x] [.int (szR x p.wt)] := by
  obtain ⟨l, rfl, hl, he⟩ := wf_slice (e := 3) (by kernel_rfl) h
  have hz : PV.wts l = 0 := wts_zero fun q hq => by
    have hq := he q hq
    obtain ⟨x0, rfl, xr⟩ := wf_int (k := .i64) (by kernel_rfl) hq
    have xr := wf64 xr
    simp
  have hm : maxLen = 9223372036854775807 := rfl
  refine Is.of e34 (Evt.all fun n => ?_)
  by_cases s : x - l.length < 0
  · rw [szR_lt (by simp [hz]; omega)]
    simp (disch := omega) [F34, wrap64, ltT]
  · rw [szR_ge (by simp [hz]; omega)]
    simp (disch := omega) [F34, wrap64, ltF, hz]
theorem wf44 {p : PV} (h : WfT Tryd.prog 44 p) : ∃ x0 x1 x2 x3 x4 x5, p = .agg [PV.int x0, PV.int x1, PV.int x2, PV.str x3, x4, x5] ∧ (-9223372036854775808 ≤ x0 ∧ x0 < 9223372036854775808) ∧ (-9223372036854775808 ≤ x1 ∧ x1 < 9223372036854775808) ∧ (-9223372036854775808 ≤ x2 ∧ x2 < 9223372036854775808) ∧ x3.size ≤ maxLen ∧ WfT Tryd.prog 33 x4 ∧ WfT Tryd.prog 42 x5 := by
  obtain ⟨l, rfl, hl, hf⟩ := wf_struct Tryd.underlying44 h
  obtain ⟨y0, y1, y2, y3, y4, y5, rfl⟩ : ∃ y0 y1 y2 y3 y4 y5, l = [y0, y1, y2, y3, y4, y5] := by
    match l, hl with
    | [a0, a1, a2, a3, a4, a5], _ => exact ⟨a0, a1, a2, a3, a4, a5, rfl⟩
  have h0 := hf 0 _ _ rfl rfl
  obtain ⟨x0, rfl, r0⟩ := wf_int (k := .i64) (by kernel_rfl) h0
  have h1 := hf 1 _ _ rfl rfl
  obtain ⟨x1, rfl, r1⟩ := wf_int (k := .i64) (by kernel_rfl) h1
  have h2 := hf 2 _ _ rfl rfl
  obtain ⟨x2, rfl, r2⟩ := wf_int (k := .i64) (by kernel_rfl) h2
  have h3 := hf 3 _ _ rfl rfl
  obtain ⟨x3, rfl, r3⟩ := wf_str (by kernel_rfl) h3
  have h4 := hf 4 _ _ rfl rfl
  have h5 := hf 5 _ _ rfl rfl
  exact ⟨x0, x1, x2, x3, y4, y5, rfl, wf64 r0, wf64 r1, wf64 r2, r3, h4, h5⟩
theorem mk44 {x0 : Int} {x1 : Int} {x2 : Int} {x3 : ByteArray} {x4 : PV} {x5 : PV} (h0 : (-9223372036854775808 ≤ x0 ∧ x0 < 9223372036854775808)) (h1 : (-9223372036854775808 ≤ x1 ∧ x1 < 9223372036854775808)) (h2 : (-9223372036854775808 ≤ x2 ∧ x2 < 9223372036854775808)) (h3 : x3.size ≤ maxLen) (h4 : WfT Tryd.prog 33 x4) (h5 : WfT Tryd.prog 42 x5) : WfT Tryd.prog 44 (.agg [PV.int x0, PV.int x1, PV.int x2, PV.str x3, x4, x5]) := by
  refine .struct Tryd.underlying44 rfl fun i f q hf hq => ?_
  match i, hf, hq with
  | 0, hf, hq => obtain rfl := Option.some.inj hf; obtain rfl := Option.some.inj hq; exact .int (k := .i64) (by kernel_rfl) (wf_mk64 h0.1 h0.2)
  | 1, hf, hq => obtain rfl := Option.some.inj hf; obtain rfl := Option.some.inj hq; exact .int (k := .i64) (by kernel_rfl) (wf_mk64 h1.1 h1.2)
  | 2, hf, hq => obtain rfl := Option.some.inj hf; obtain rfl := Option.some.inj hq; exact .int (k := .i64) (by kernel_rfl) (wf_mk64 h2.1 h2.2)
  | 3, hf, hq => obtain rfl := Option.some.inj hf; obtain rfl := Option.some.inj hq; exact .str (by kernel_rfl) h3
  | 4, hf, hq => obtain rfl := Option.some.inj hf; obtain rfl := Option.some.inj hq; exact h4
  | 5, hf, hq => obtain rfl := Option.some.inj hf; obtain rfl := Option.some.inj hq; exact h5
  | n + 6, hf, hq => simp at hq
theorem sz_17_of {p : PV} (h : WfT Tryd.prog 44 p) (IH : ∀ q, SizeOf.sizeOf q < SizeOf.sizeOf p → WfT Tryd.prog 42 q → ∀ {x : Int}, 0 ≤ x → x ≤ 1048576 → Rn 41 [q, .int x] [.int (szR x q.wt)]) {x : Int} (hx : 0 ≤ x) (hB : x ≤ 1048576) : Rn 17 [p, .int x] [.int (szR x p.wt)] := by
  obtain ⟨x0, x1, x2, x3, x4, x5, rfl, xh0, xh1, xh2, xh3, xh4, xh5⟩ := wf44 h
  have hm : maxLen = 9223372036854775807 := rfl
  have w0 : IntKind.i64.wrap (x - (x3.size : Int)) = x - x3.size := wrap64 (by omega) (by omega)
  by_cases s0 : x - (x3.size : Int) < 0
  · have q : szR x (PV.agg [PV.int x0, PV.int x1, PV.int x2, PV.str x3, x4, x5]).wt = -1 := szR_lt (by simp; omega)
    rw [q]
    exact Is.of e17 (Evt.all fun n => by simp [F17, w0, ltT s0])
  have c1 := sz_34 xh4 (x := x - x3.size) (by omega) (by omega)
  by_cases s1 : szR (x - x3.size) x4.wt < 0
  · have q : szR x (PV.agg [PV.int x0, PV.int x1, PV.int x2, PV.str x3, x4, x5]).wt = -1 := szR_lt (by have := (szR_neg (w := x4.wt) (x := x - x3.size) (by omega)).1 s1; simp; omega)
    rw [q]
    exact Is.of e17 ((c1).mp fun n h => by simp [F17, h, w0, ltF (Int.not_lt.1 s0), ltT s1])
  have g1 : (x4.wt : Int) ≤ x - x3.size := by have := mt (szR_neg (w := x4.wt) (x := x - x3.size) (by omega)).2 s1; omega
  have d1 : szR (x - x3.size) x4.wt = x - x3.size - x4.wt := szR_ge g1
  rw [d1] at c1 s1
  have c2 := IH _ (by simp <;> omega) xh5 (x := x - x3.size - x4.wt) (by omega) (by omega)
  by_cases s2 : szR (x - x3.size - x4.wt) x5.wt < 0
  · have q : szR x (PV.agg [PV.int x0, PV.int x1, PV.int x2, PV.str x3, x4, x5]).wt = -1 := szR_lt (by have := (szR_neg (w := x5.wt) (x := x - x3.size - x4.wt) (by omega)).1 s2; simp; omega)
    rw [q]
    exact Is.of e17 ((Evt.and (c1) c2).mp fun n h => by simp [F17, h, w0, ltF (Int.not_lt.1 s0), ltF (Int.not_lt.1 s1), ltT s2])
  have g2 : (x5.wt : Int) ≤ x - x3.size - x4.wt := by have := mt (szR_neg (w := x5.wt) (x := x - x3.size - x4.wt) (by omega)).2 s2; omega
  have d2 : szR (x - x3.size - x4.wt) x5.wt = x - x3.size - x4.wt - x5.wt := szR_ge g2
  rw [d2] at c2 s2
  have q : szR x (PV.agg [PV.int x0, PV.int x1, PV.int x2, PV.str x3, x4, x5]).wt = x - x3.size - x4.wt - x5.wt := by rw [szR_ge (by simp <;> omega)]; simp <;> omega
  rw [q]
  exact Is.of e17 ((Evt.and (c1) c2).mp fun n h => by simp [F17, h, w0, ltF (Int.not_lt.1 s0), ltF (Int.not_lt.1 s1), ltF (Int.not_lt.1 s2)])
theorem sz_41_aux : ∀ (N : Nat) (p : PV), SizeOf.sizeOf p = N → WfT Tryd.prog 42 p → ∀ {x : Int}, 0 ≤ x → x ≤ 1048576 → Rn 41 [p, .int x] [.int (szR x p.wt)] := by
  intro N
  induction N using Nat.strongRecOn with
  | ind N ih =>
  intro p hN h x hx hB
  obtain ⟨l, rfl, hl, he⟩ := wf_slice (e := 44) (by kernel_rfl) h
  have hm : maxLen = 9223372036854775807 := rfl
  by_cases s : x - l.length < 0
  · rw [szR_lt (by simp; omega)]
    exact Is.of e41 (Evt.all fun n => by simp (disch := omega) [F41, wrap64, ltT])
  have hloop := sz_loop (body := fun n => L41_0 (ev Tryd.prog sg n) n) (pay := fun i y => [.int i, .list l, .int y]) (l := l) (B := 1048576) (fun i hi y h1 h2 => ?_) (fun y h1 => Evt.all fun n => ?_) (x - l.length) (by omega) (by omega)
  · have q : szR x (PV.list l).wt = szR (x - l.length) (PV.wts l) := by
      simp only [wt_list, szR]; push_cast
      by_cases hh : (PV.wts l : Int) ≤ x - l.length
      · rw [if_pos hh, if_pos (by omega)]; omega
      · rw [if_neg hh, if_neg (by omega)]
    rw [q]
    refine Is.of e41 (hloop.mp fun n h => ?_)
    simp only [show ((0 : Nat) : Int) = 0 from rfl] at h
    by_cases s2 : szR (x - l.length) (PV.wts l) < 0
    · have s3 := (szR_neg (by omega)).1 s2
      rw [if_pos s2] at h
      rw [szR_lt (by omega)]
      simp (disch := omega) [F41, wrap64, ltF, h]
    · rw [if_neg s2] at h
      simp (disch := omega) [F41, wrap64, ltF, h]
  · refine (sz_17_of (he _ (nth_mem hi)) (fun q hq hw => ih (SizeOf.sizeOf q) (by have := size_mem (nth_mem hi); omega) q rfl hw) h1 h2).mp fun n h => ?_
    by_cases s2 : szR y (nth l i).wt < 0
    · rw [if_pos s2]
      simp (disch := omega) [L41_0, ltT, geT, wrap64, h, hi]
    · rw [if_neg s2]
      simp (disch := omega) [L41_0, ltT, ltF, geT, wrap64, h, hi]
  · simp (disch := omega) [L41_0, ltF]
theorem sz_41 {p : PV} (h : WfT Tryd.prog 42 p) {x : Int} (hx : 0 ≤ x) (hB : x ≤ 1048576) : Rn 41 [p, .int x] [.int (szR x p.wt)] := by
  exact sz_41_aux _ _ rfl h hx hB
theorem sz_17 {p : PV} (h : WfT Tryd.prog 44 p) {x : Int} (hx : 0 ≤ x) (hB : x ≤ 1048576) : Rn 17 [p, .int x] [.int (szR x p.wt)] := by
  exact sz_17_of h (fun q _ hw => sz_41 hw) hx hB
theorem to_37 {p : PV} (h : WfT Tryd.prog 33 p) (hw : p.wt ≤ 1048576) : Rn 37 [p] [p] := by
  obtain ⟨l, rfl, hl, he⟩ := wf_slice (e := 3) (by kernel_rfl) h
  simp at hw
  refine Is.of e37 ?_
  have hloop := loop_run (body := fun n => L37_0 (ev Tryd.prog sg n) n) (e := .x 0) (res := [.list l]) (fun i => [.int i, .list l, .list (l.take i ++ List.replicate (l.length - i) (PV.int (0 : Int)))]) l.length (fun i hi => ?_) (Evt.all fun n => ?_) (by simp)
  · refine hloop.mp fun n h => ?_
    simp at h
    simp (disch := omega) [F37, leT, geT, h]
  · refine Evt.all fun n => ?_
    simp (disch := omega) [L37_0, ltT, geT, wrap64, fill_set, hi]
  · simp (disch := omega) [L37_0, ltF]
theorem to_19_of {p : PV} (h : WfT Tryd.prog 44 p) (IH : ∀ q, SizeOf.sizeOf q < SizeOf.sizeOf p → WfT Tryd.prog 42 q → q.wt ≤ 1048576 → Rn 42 [q] [q]) (hw : p.wt ≤ 1048576) : Rn 19 [p] [p] := by
  obtain ⟨x0, x1, x2, x3, x4, x5, rfl, xh0, xh1, xh2, xh3, xh4, xh5⟩ := wf44 h
  simp at hw
  have c0 := to_37 xh4 (by omega)
  have c1 := IH _ (by simp <;> omega) xh5 (by omega)
  exact Is.of e19 ((Evt.and (c0) c1).mp fun n h => by simp [F19, h])
theorem to_42_aux : ∀ (N : Nat) (p : PV), SizeOf.sizeOf p = N → WfT Tryd.prog 42 p → p.wt ≤ 1048576 → Rn 42 [p] [p] := by
  intro N
  induction N using Nat.strongRecOn with
  | ind N ih =>
  intro p hN h hw
  obtain ⟨l, rfl, hl, he⟩ := wf_slice (e := 44) (by kernel_rfl) h
  simp at hw
  refine Is.of e42 ?_
  have hloop := loop_run (body := fun n => L42_0 (ev Tryd.prog sg n) n) (e := .x 0) (res := [.list l]) (fun i => [.int i, .list l, .list (l.take i ++ List.replicate (l.length - i) (PV.agg [(PV.int (0 : Int)), (PV.int (0 : Int)), (PV.int (0 : Int)), (PV.str (⟨#[]⟩ : ByteArray)), (PV.list ([] : List PV)), (PV.list ([] : List PV))]))]) l.length (fun i hi => ?_) (Evt.all fun n => ?_) (by simp)
  · refine hloop.mp fun n h => ?_
    simp at h
    simp (disch := omega) [F42, leT, geT, h]
  · have hm := nth_mem hi
    refine (to_19_of (he _ hm) (fun q hq hw => ih (SizeOf.sizeOf q) (by have := size_mem hm; omega) q rfl hw) (by have := wt_mem hm; omega)).mp fun n h => ?_
    simp (disch := omega) [L42_0, ltT, geT, wrap64, h, fill_set, hi]
  · simp (disch := omega) [L42_0, ltF]
theorem to_42 {p : PV} (h : WfT Tryd.prog 42 p) (hw : p.wt ≤ 1048576) : Rn 42 [p] [p] := by
  exact to_42_aux _ _ rfl h hw
theorem to_19 {p : PV} (h : WfT Tryd.prog 44 p) (hw : p.wt ≤ 1048576) : Rn 19 [p] [p] := by
  exact to_19_of h (fun q _ hw hv => to_42 hw hv) hw
theorem eq_40 {p : PV} (h : WfT Tryd.prog 33 p) : Rn 40 [p, p] [.bool true] := by
  obtain ⟨l, rfl, hl, he⟩ := wf_slice (e := 3) (by kernel_rfl) h
  have hm : maxLen = 9223372036854775807 := rfl
  have hloop := loop_run (body := fun n => L40_0 (ev Tryd.prog sg n) n) (e := .x 0) (res := []) (fun i => [.int i, .list l, .list l]) l.length (fun i hi => ?_) (Evt.all fun n => ?_) (by simp)
  · refine Is.of e40 (hloop.mp fun n h => ?_)
    simp at h
    simp (disch := omega) [F40, neF, h]
  · refine Evt.all fun n => ?_
    simp (disch := omega) [L40_0, ltT, geT, wrap64, neF]
  · simp (disch := omega) [L40_0, ltF]
theorem eq_21_of {p : PV} (h : WfT Tryd.prog 44 p) (IH : ∀ q, SizeOf.sizeOf q < SizeOf.sizeOf p → WfT Tryd.prog 42 q → Rn 44 [q, q] [.bool true]) : Rn 21 [p, p] [.bool true] := by
  obtain ⟨x0, x1, x2, x3, x4, x5, rfl, xh0, xh1, xh2, xh3, xh4, xh5⟩ := wf44 h
  have c0 := eq_40 xh4
  have c1 := IH _ (by simp <;> omega) xh5
  exact Is.of e21 ((Evt.and (c0) c1).mp fun n h => by simp [F21, neF, h])
theorem eq_44_aux : ∀ (N : Nat) (p : PV), SizeOf.sizeOf p = N → WfT Tryd.prog 42 p → Rn 44 [p, p] [.bool true] := by
  intro N
  induction N using Nat.strongRecOn with
  | ind N ih =>
  intro p hN h 
  obtain ⟨l, rfl, hl, he⟩ := wf_slice (e := 44) (by kernel_rfl) h
  have hm : maxLen = 9223372036854775807 := rfl
  have hloop := loop_run (body := fun n => L44_0 (ev Tryd.prog sg n) n) (e := .x 0) (res := []) (fun i => [.int i, .list l, .list l]) l.length (fun i hi => ?_) (Evt.all fun n => ?_) (by simp)
  · refine Is.of e44 (hloop.mp fun n h => ?_)
    simp at h
    simp (disch := omega) [F44, neF, h]
  · refine (eq_21_of (he _ (nth_mem hi)) (fun q hq hw => ih (SizeOf.sizeOf q) (by have := size_mem (nth_mem hi); omega) q rfl hw)).mp fun n h => ?_
    simp (disch := omega) [L44_0, ltT, geT, wrap64, h]
  · simp (disch := omega) [L44_0, ltF]
theorem eq_44 {p : PV} (h : WfT Tryd.prog 42 p) : Rn 44 [p, p] [.bool true] := by
  exact eq_44_aux _ _ rfl h 
theorem eq_21 {p : PV} (h : WfT Tryd.prog 44 p) : Rn 21 [p, p] [.bool true] := by
  exact eq_21_of h (fun q _ hw => eq_44 hw) 
end Go.Proofs.YtjaboelhknoamaaDoor.GFnExactStxText
