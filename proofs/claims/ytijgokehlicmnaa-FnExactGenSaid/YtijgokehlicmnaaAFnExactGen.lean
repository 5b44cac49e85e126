/- The helpers of the law FnExactGen: sizes, copies, comparisons, marks. Each under the conditions that it names. -/
import Derived.Test.YtijgokehlicmnaaGFnExactGen
import Derived.Test.YtijgokehlicmnaaRscZp
namespace Go.Proofs.Ytijgokehlicmnaa.GFnExactGen
open Go Go.Rsc Go.Proofs.Ytijgokehlicmnaa
set_option maxRecDepth 100000
set_option linter.unusedVariables false
set_option linter.unusedSimpArgs false
theorem size_mem {l : List PV} {x : PV} (h : x ∈ l) : SizeOf.sizeOf x < SizeOf.sizeOf (PV.list l) := by
  have := List.sizeOf_lt_of_mem h
  simp; omega
abbrev Rn (f : FuncId) (a r : List PV) : Prop := Is Try.prog sg f a r
theorem wf149 {p : PV} (h : WfT Try.prog 149 p) : ∃ x0 x1 x2, p = .agg [PV.int x0, PV.int x1, x2] ∧ (-9223372036854775808 ≤ x0 ∧ x0 < 9223372036854775808) ∧ (-9223372036854775808 ≤ x1 ∧ x1 < 9223372036854775808) ∧ WfT Try.prog 147 x2 := by
  obtain ⟨l, rfl, hl, hf⟩ := wf_struct Try.underlying149 h
  obtain ⟨y0, y1, y2, rfl⟩ : ∃ y0 y1 y2, l = [y0, y1, y2] := by
    match l, hl with
    | [a0, a1, a2], _ => exact ⟨a0, a1, a2, rfl⟩
  have h0 := hf 0 _ _ rfl rfl
  obtain ⟨x0, rfl, r0⟩ := wf_int (k := .i64) (by kernel_rfl) h0
  have h1 := hf 1 _ _ rfl rfl
  obtain ⟨x1, rfl, r1⟩ := wf_int (k := .i64) (by kernel_rfl) h1
  have h2 := hf 2 _ _ rfl rfl
  exact ⟨x0, x1, y2, rfl, wf64 r0, wf64 r1, h2⟩
theorem mk149 {x0 : Int} {x1 : Int} {x2 : PV} (h0 : (-9223372036854775808 ≤ x0 ∧ x0 < 9223372036854775808)) (h1 : (-9223372036854775808 ≤ x1 ∧ x1 < 9223372036854775808)) (h2 : WfT Try.prog 147 x2) : WfT Try.prog 149 (.agg [PV.int x0, PV.int x1, x2]) := by
  refine .struct Try.underlying149 rfl fun i f q hf hq => ?_
  match i, hf, hq with
  | 0, hf, hq => obtain rfl := Option.some.inj hf; obtain rfl := Option.some.inj hq; exact .int (k := .i64) (by kernel_rfl) (wf_mk64 h0.1 h0.2)
  | 1, hf, hq => obtain rfl := Option.some.inj hf; obtain rfl := Option.some.inj hq; exact .int (k := .i64) (by kernel_rfl) (wf_mk64 h1.1 h1.2)
  | 2, hf, hq => obtain rfl := Option.some.inj hf; obtain rfl := Option.some.inj hq; exact h2
  | n + 3, hf, hq => simp at hq
theorem sz_176_of {p : PV} (h : WfT Try.prog 149 p) (IH : ∀ q, SizeOf.sizeOf q < SizeOf.sizeOf p → WfT Try.prog 147 q → ∀ {x : Int}, 0 ≤ x → x ≤ 1048576 → Rn 208 [q, .int x] [.int (szR x q.wt)]) {x : Int} (hx : 0 ≤ x) (hB : x ≤ 1048576) : Rn 176 [p, .int x] [.int (szR x p.wt)] := by
  obtain ⟨x0, x1, x2, rfl, xh0, xh1, xh2⟩ := wf149 h
  have c0 := IH _ (by simp <;> omega) xh2 (x := x) (by omega) (by omega)
  by_cases s0 : szR (x) x2.wt < 0
  · have q : szR x (PV.agg [PV.int x0, PV.int x1, x2]).wt = -1 := szR_lt (by have := (szR_neg (w := x2.wt) (x := x) (by omega)).1 s0; simp; omega)
    rw [q]
    exact Is.of e176 ((c0).mp fun n h => by simp [F176, h, ltT s0])
  have g0 : (x2.wt : Int) ≤ x := by have := mt (szR_neg (w := x2.wt) (x := x) (by omega)).2 s0; omega
  have d0 : szR (x) x2.wt = x - x2.wt := szR_ge g0
  rw [d0] at c0 s0
  have q : szR x (PV.agg [PV.int x0, PV.int x1, x2]).wt = x - x2.wt := by rw [szR_ge (by simp <;> omega)]; simp <;> omega
  rw [q]
  exact Is.of e176 ((c0).mp fun n h => by simp [F176, h, ltF (Int.not_lt.1 s0)])
theorem sz_208_aux : ∀ (N : Nat) (p : PV), SizeOf.sizeOf p = N → WfT Try.prog 147 p → ∀ {x : Int}, 0 ≤ x → x ≤ 1048576 → Rn 208 [p, .int x] [.int (szR x p.wt)] := by
  intro N
  induction N using Nat.strongRecOn with
  | ind N ih =>
  intro p hN h x hx hB
  obtain ⟨l, rfl, hl, he⟩ := wf_slice (e := 149) (by kernel_rfl) h
  have hm : maxLen = 9223372036854775807 := rfl
  by_cases s : x - l.length < 0
  · rw [szR_lt (by simp; omega)]
    exact Is.of e208 (Evt.all fun n => by simp (disch := omega) [F208, wrap64, ltT])
  have hloop := sz_loop (body := fun n => L208_0 (ev Try.prog sg n) n) (pay := fun i y => [.int i, .list l, .int y]) (l := l) (B := 1048576) (fun i hi y h1 h2 => ?_) (fun y h1 => Evt.all fun n => ?_) (x - l.length) (by omega) (by omega)
  · have q : szR x (PV.list l).wt = szR (x - l.length) (PV.wts l) := by
      simp only [wt_list, szR]; push_cast
      by_cases hh : (PV.wts l : Int) ≤ x - l.length
      · rw [if_pos hh, if_pos (by omega)]; omega
      · rw [if_neg hh, if_neg (by omega)]
    rw [q]
    refine Is.of e208 (hloop.mp fun n h => ?_)
    simp only [show ((0 : Nat) : Int) = 0 from rfl] at h
    by_cases s2 : szR (x - l.length) (PV.wts l) < 0
    · have s3 := (szR_neg (by omega)).1 s2
      rw [if_pos s2] at h
      rw [szR_lt (by omega)]
      simp (disch := omega) [F208, wrap64, ltF, h]
    · rw [if_neg s2] at h
      simp (disch := omega) [F208, wrap64, ltF, h]
  · refine (sz_176_of (he _ (nth_mem hi)) (fun q hq hw => ih (SizeOf.sizeOf q) (by have := size_mem (nth_mem hi); omega) q rfl hw) h1 h2).mp fun n h => ?_
    by_cases s2 : szR y (nth l i).wt < 0
    · rw [if_pos s2]
      simp (disch := omega) [L208_0, ltT, geT, wrap64, h, hi]
    · rw [if_neg s2]
      simp (disch := omega) [L208_0, ltT, ltF, geT, wrap64, h, hi]
  · simp (disch := omega) [L208_0, ltF]
theorem sz_208 {p : PV} (h : WfT Try.prog 147 p) {x : Int} (hx : 0 ≤ x) (hB : x ≤ 1048576) : Rn 208 [p, .int x] [.int (szR x p.wt)] := by
  exact sz_208_aux _ _ rfl h hx hB
theorem sz_176 {p : PV} (h : WfT Try.prog 149 p) {x : Int} (hx : 0 ≤ x) (hB : x ≤ 1048576) : Rn 176 [p, .int x] [.int (szR x p.wt)] := by
  exact sz_176_of h (fun q _ hw => sz_208 hw) hx hB
theorem wf151 {p : PV} (h : WfT Try.prog 151 p) : ∃ x0 x1, p = .agg [PV.int x0, x1] ∧ (-9223372036854775808 ≤ x0 ∧ x0 < 9223372036854775808) ∧ WfT Try.prog 149 x1 := by
  obtain ⟨l, rfl, hl, hf⟩ := wf_struct Try.underlying151 h
  obtain ⟨y0, y1, rfl⟩ : ∃ y0 y1, l = [y0, y1] := by
    match l, hl with
    | [a0, a1], _ => exact ⟨a0, a1, rfl⟩
  have h0 := hf 0 _ _ rfl rfl
  obtain ⟨x0, rfl, r0⟩ := wf_int (k := .i64) (by kernel_rfl) h0
  have h1 := hf 1 _ _ rfl rfl
  exact ⟨x0, y1, rfl, wf64 r0, h1⟩
theorem mk151 {x0 : Int} {x1 : PV} (h0 : (-9223372036854775808 ≤ x0 ∧ x0 < 9223372036854775808)) (h1 : WfT Try.prog 149 x1) : WfT Try.prog 151 (.agg [PV.int x0, x1]) := by
  refine .struct Try.underlying151 rfl fun i f q hf hq => ?_
  match i, hf, hq with
  | 0, hf, hq => obtain rfl := Option.some.inj hf; obtain rfl := Option.some.inj hq; exact .int (k := .i64) (by kernel_rfl) (wf_mk64 h0.1 h0.2)
  | 1, hf, hq => obtain rfl := Option.some.inj hf; obtain rfl := Option.some.inj hq; exact h1
  | n + 2, hf, hq => simp at hq
theorem sz_134 {p : PV} (h : WfT Try.prog 151 p) {x : Int} (hx : 0 ≤ x) (hB : x ≤ 1048576) : Rn 134 [p, .int x] [.int (szR x p.wt)] := by
  obtain ⟨x0, x1, rfl, xh0, xh1⟩ := wf151 h
  have c0 := sz_176 xh1 (x := x) (by omega) (by omega)
  by_cases s0 : szR (x) x1.wt < 0
  · have q : szR x (PV.agg [PV.int x0, x1]).wt = -1 := szR_lt (by have := (szR_neg (w := x1.wt) (x := x) (by omega)).1 s0; simp; omega)
    rw [q]
    exact Is.of e134 ((c0).mp fun n h => by simp [F134, h, ltT s0])
  have g0 : (x1.wt : Int) ≤ x := by have := mt (szR_neg (w := x1.wt) (x := x) (by omega)).2 s0; omega
  have d0 : szR (x) x1.wt = x - x1.wt := szR_ge g0
  rw [d0] at c0 s0
  have q : szR x (PV.agg [PV.int x0, x1]).wt = x - x1.wt := by rw [szR_ge (by simp <;> omega)]; simp <;> omega
  rw [q]
  exact Is.of e134 ((c0).mp fun n h => by simp [F134, h, ltF (Int.not_lt.1 s0)])
theorem sz_62 {p : PV} (h : WfT Try.prog 86 p) {x : Int} (hx : 0 ≤ x) (hB : x ≤ 1048576) : Rn 62 [p, .int x] [.int (szR x p.wt)] := by
  obtain ⟨l, rfl, hl, he⟩ := wf_slice (e := 151) (by kernel_rfl) h
  have hm : maxLen = 9223372036854775807 := rfl
  by_cases s : x - l.length < 0
  · rw [szR_lt (by simp; omega)]
    exact Is.of e62 (Evt.all fun n => by simp (disch := omega) [F62, wrap64, ltT])
  have hloop := sz_loop (body := fun n => L62_0 (ev Try.prog sg n) n) (pay := fun i y => [.int i, .list l, .int y]) (l := l) (B := 1048576) (fun i hi y h1 h2 => ?_) (fun y h1 => Evt.all fun n => ?_) (x - l.length) (by omega) (by omega)
  · have q : szR x (PV.list l).wt = szR (x - l.length) (PV.wts l) := by
      simp only [wt_list, szR]; push_cast
      by_cases hh : (PV.wts l : Int) ≤ x - l.length
      · rw [if_pos hh, if_pos (by omega)]; omega
      · rw [if_neg hh, if_neg (by omega)]
    rw [q]
    refine Is.of e62 (hloop.mp fun n h => ?_)
    simp only [show ((0 : Nat) : Int) = 0 from rfl] at h
    by_cases s2 : szR (x - l.length) (PV.wts l) < 0
    · have s3 := (szR_neg (by omega)).1 s2
      rw [if_pos s2] at h
      rw [szR_lt (by omega)]
      simp (disch := omega) [F62, wrap64, ltF, h]
    · rw [if_neg s2] at h
      simp (disch := omega) [F62, wrap64, ltF, h]
  · refine (sz_134 (he _ (nth_mem hi)) h1 h2).mp fun n h => ?_
    by_cases s2 : szR y (nth l i).wt < 0
    · rw [if_pos s2]
      simp (disch := omega) [L62_0, ltT, geT, wrap64, h, hi]
    · rw [if_neg s2]
      simp (disch := omega) [L62_0, ltT, ltF, geT, wrap64, h, hi]
  · simp (disch := omega) [L62_0, ltF]
theorem to_180_of {p : PV} (h : WfT Try.prog 149 p) (IH : ∀ q, SizeOf.sizeOf q < SizeOf.sizeOf p → WfT Try.prog 147 q → q.wt ≤ 1048576 → Rn 210 [q] [q]) (hw : p.wt ≤ 1048576) : Rn 180 [p] [p] := by
  obtain ⟨x0, x1, x2, rfl, xh0, xh1, xh2⟩ := wf149 h
  simp at hw
  have c0 := IH _ (by simp <;> omega) xh2 (by omega)
  exact Is.of e180 ((c0).mp fun n h => by simp [F180, h])
theorem to_210_aux : ∀ (N : Nat) (p : PV), SizeOf.sizeOf p = N → WfT Try.prog 147 p → p.wt ≤ 1048576 → Rn 210 [p] [p] := by
  intro N
  induction N using Nat.strongRecOn with
  | ind N ih =>
  intro p hN h hw
  obtain ⟨l, rfl, hl, he⟩ := wf_slice (e := 149) (by kernel_rfl) h
  simp at hw
  refine Is.of e210 ?_
  have hloop := loop_run (body := fun n => L210_0 (ev Try.prog sg n) n) (e := .x 0) (res := [.list l]) (fun i => [.int i, .list l, .list (l.take i ++ List.replicate (l.length - i) (PV.agg [(PV.int (0 : Int)), (PV.int (0 : Int)), (PV.list ([] : List PV))]))]) l.length (fun i hi => ?_) (Evt.all fun n => ?_) (by simp)
  · refine hloop.mp fun n h => ?_
    simp at h
    simp (disch := omega) [F210, leT, geT, h]
  · have hm := nth_mem hi
    refine (to_180_of (he _ hm) (fun q hq hw => ih (SizeOf.sizeOf q) (by have := size_mem hm; omega) q rfl hw) (by have := wt_mem hm; omega)).mp fun n h => ?_
    simp (disch := omega) [L210_0, ltT, geT, wrap64, h, fill_set, hi]
  · simp (disch := omega) [L210_0, ltF]
theorem to_210 {p : PV} (h : WfT Try.prog 147 p) (hw : p.wt ≤ 1048576) : Rn 210 [p] [p] := by
  exact to_210_aux _ _ rfl h hw
theorem to_180 {p : PV} (h : WfT Try.prog 149 p) (hw : p.wt ≤ 1048576) : Rn 180 [p] [p] := by
  exact to_180_of h (fun q _ hw hv => to_210 hw hv) hw
theorem to_138 {p : PV} (h : WfT Try.prog 151 p) (hw : p.wt ≤ 1048576) : Rn 138 [p] [p] := by
  obtain ⟨x0, x1, rfl, xh0, xh1⟩ := wf151 h
  simp at hw
  have c0 := to_180 xh1 (by omega)
  exact Is.of e138 ((c0).mp fun n h => by simp [F138, h])
theorem to_64 {p : PV} (h : WfT Try.prog 86 p) (hw : p.wt ≤ 1048576) : Rn 64 [p] [p] := by
  obtain ⟨l, rfl, hl, he⟩ := wf_slice (e := 151) (by kernel_rfl) h
  simp at hw
  refine Is.of e64 ?_
  have hloop := loop_run (body := fun n => L64_0 (ev Try.prog sg n) n) (e := .x 0) (res := [.list l]) (fun i => [.int i, .list l, .list (l.take i ++ List.replicate (l.length - i) (PV.agg [(PV.int (0 : Int)), (PV.agg [(PV.int (0 : Int)), (PV.int (0 : Int)), (PV.list ([] : List PV))])]))]) l.length (fun i hi => ?_) (Evt.all fun n => ?_) (by simp)
  · refine hloop.mp fun n h => ?_
    simp at h
    simp (disch := omega) [F64, leT, geT, h]
  · have hm := nth_mem hi
    refine (to_138 (he _ hm) (by have := wt_mem hm; omega)).mp fun n h => ?_
    simp (disch := omega) [L64_0, ltT, geT, wrap64, h, fill_set, hi]
  · simp (disch := omega) [L64_0, ltF]
theorem eq_186_of {p : PV} (h : WfT Try.prog 149 p) (IH : ∀ q, SizeOf.sizeOf q < SizeOf.sizeOf p → WfT Try.prog 147 q → Rn 214 [q, q] [.bool true]) : Rn 186 [p, p] [.bool true] := by
  obtain ⟨x0, x1, x2, rfl, xh0, xh1, xh2⟩ := wf149 h
  have c0 := IH _ (by simp <;> omega) xh2
  exact Is.of e186 ((c0).mp fun n h => by simp [F186, neF, h])
theorem eq_214_aux : ∀ (N : Nat) (p : PV), SizeOf.sizeOf p = N → WfT Try.prog 147 p → Rn 214 [p, p] [.bool true] := by
  intro N
  induction N using Nat.strongRecOn with
  | ind N ih =>
  intro p hN h 
  obtain ⟨l, rfl, hl, he⟩ := wf_slice (e := 149) (by kernel_rfl) h
  have hm : maxLen = 9223372036854775807 := rfl
  have hloop := loop_run (body := fun n => L214_0 (ev Try.prog sg n) n) (e := .x 0) (res := []) (fun i => [.int i, .list l, .list l]) l.length (fun i hi => ?_) (Evt.all fun n => ?_) (by simp)
  · refine Is.of e214 (hloop.mp fun n h => ?_)
    simp at h
    simp (disch := omega) [F214, neF, h]
  · refine (eq_186_of (he _ (nth_mem hi)) (fun q hq hw => ih (SizeOf.sizeOf q) (by have := size_mem (nth_mem hi); omega) q rfl hw)).mp fun n h => ?_
    simp (disch := omega) [L214_0, ltT, geT, wrap64, h]
  · simp (disch := omega) [L214_0, ltF]
theorem eq_214 {p : PV} (h : WfT Try.prog 147 p) : Rn 214 [p, p] [.bool true] := by
  exact eq_214_aux _ _ rfl h 
theorem eq_186 {p : PV} (h : WfT Try.prog 149 p) : Rn 186 [p, p] [.bool true] := by
  exact eq_186_of h (fun q _ hw => eq_214 hw) 
theorem eq_143 {p : PV} (h : WfT Try.prog 151 p) : Rn 143 [p, p] [.bool true] := by
  obtain ⟨x0, x1, rfl, xh0, xh1⟩ := wf151 h
  have c0 := eq_186 xh1
  exact Is.of e143 ((c0).mp fun n h => by simp [F143, neF, h])
theorem eq_67 {p : PV} (h : WfT Try.prog 86 p) : Rn 67 [p, p] [.bool true] := by
  obtain ⟨l, rfl, hl, he⟩ := wf_slice (e := 151) (by kernel_rfl) h
  have hm : maxLen = 9223372036854775807 := rfl
  have hloop := loop_run (body := fun n => L67_0 (ev Try.prog sg n) n) (e := .x 0) (res := []) (fun i => [.int i, .list l, .list l]) l.length (fun i hi => ?_) (Evt.all fun n => ?_) (by simp)
  · refine Is.of e67 (hloop.mp fun n h => ?_)
    simp at h
    simp (disch := omega) [F67, neF, h]
  · refine (eq_143 (he _ (nth_mem hi))).mp fun n h => ?_
    simp (disch := omega) [L67_0, ltT, geT, wrap64, h]
  · simp (disch := omega) [L67_0, ltF]
theorem wf196 {p : PV} (h : WfT Try.prog 196 p) : ∃ x0 x1 x2, p = .agg [PV.int x0, PV.int x1, PV.int x2] ∧ (-9223372036854775808 ≤ x0 ∧ x0 < 9223372036854775808) ∧ (-9223372036854775808 ≤ x1 ∧ x1 < 9223372036854775808) ∧ (-9223372036854775808 ≤ x2 ∧ x2 < 9223372036854775808) := by
  obtain ⟨l, rfl, hl, hf⟩ := wf_struct Try.underlying196 h
  obtain ⟨y0, y1, y2, rfl⟩ : ∃ y0 y1 y2, l = [y0, y1, y2] := by
    match l, hl with
    | [a0, a1, a2], _ => exact ⟨a0, a1, a2, rfl⟩
  have h0 := hf 0 _ _ rfl rfl
  obtain ⟨x0, rfl, r0⟩ := wf_int (k := .i64) (by kernel_rfl) h0
  have h1 := hf 1 _ _ rfl rfl
  obtain ⟨x1, rfl, r1⟩ := wf_int (k := .i64) (by kernel_rfl) h1
  have h2 := hf 2 _ _ rfl rfl
  obtain ⟨x2, rfl, r2⟩ := wf_int (k := .i64) (by kernel_rfl) h2
  exact ⟨x0, x1, x2, rfl, wf64 r0, wf64 r1, wf64 r2⟩
theorem mk196 {x0 : Int} {x1 : Int} {x2 : Int} (h0 : (-9223372036854775808 ≤ x0 ∧ x0 < 9223372036854775808)) (h1 : (-9223372036854775808 ≤ x1 ∧ x1 < 9223372036854775808)) (h2 : (-9223372036854775808 ≤ x2 ∧ x2 < 9223372036854775808)) : WfT Try.prog 196 (.agg [PV.int x0, PV.int x1, PV.int x2]) := by
  refine .struct Try.underlying196 rfl fun i f q hf hq => ?_
  match i, hf, hq with
  | 0, hf, hq => obtain rfl := Option.some.inj hf; obtain rfl := Option.some.inj hq; exact .int (k := .i64) (by kernel_rfl) (wf_mk64 h0.1 h0.2)
  | 1, hf, hq => obtain rfl := Option.some.inj hf; obtain rfl := Option.some.inj hq; exact .int (k := .i64) (by kernel_rfl) (wf_mk64 h1.1 h1.2)
  | 2, hf, hq => obtain rfl := Option.some.inj hf; obtain rfl := Option.some.inj hq; exact .int (k := .i64) (by kernel_rfl) (wf_mk64 h2.1 h2.2)
  | n + 3, hf, hq => simp at hq
theorem eq_213 {p : PV} (h : WfT Try.prog 196 p) : Rn 213 [p, p] [.bool true] := by
  obtain ⟨x0, x1, x2, rfl, xh0, xh1, xh2⟩ := wf196 h
  exact Is.of e213 (Evt.all fun n => by simp [F213, neF])
theorem eq_185 {p : PV} (h : WfT Try.prog 129 p) : Rn 185 [p, p] [.bool true] := by
  obtain ⟨l, rfl, hl, he⟩ := wf_slice (e := 196) (by kernel_rfl) h
  have hm : maxLen = 9223372036854775807 := rfl
  have hloop := loop_run (body := fun n => L185_0 (ev Try.prog sg n) n) (e := .x 0) (res := []) (fun i => [.int i, .list l, .list l]) l.length (fun i hi => ?_) (Evt.all fun n => ?_) (by simp)
  · refine Is.of e185 (hloop.mp fun n h => ?_)
    simp at h
    simp (disch := omega) [F185, neF, h]
  · refine (eq_213 (he _ (nth_mem hi))).mp fun n h => ?_
    simp (disch := omega) [L185_0, ltT, geT, wrap64, h]
  · simp (disch := omega) [L185_0, ltF]
theorem wf131 {p : PV} (h : WfT Try.prog 131 p) : ∃ x0 x1, p = .agg [PV.int x0, x1] ∧ (-9223372036854775808 ≤ x0 ∧ x0 < 9223372036854775808) ∧ WfT Try.prog 129 x1 := by
  obtain ⟨l, rfl, hl, hf⟩ := wf_struct Try.underlying131 h
  obtain ⟨y0, y1, rfl⟩ : ∃ y0 y1, l = [y0, y1] := by
    match l, hl with
    | [a0, a1], _ => exact ⟨a0, a1, rfl⟩
  have h0 := hf 0 _ _ rfl rfl
  obtain ⟨x0, rfl, r0⟩ := wf_int (k := .i64) (by kernel_rfl) h0
  have h1 := hf 1 _ _ rfl rfl
  exact ⟨x0, y1, rfl, wf64 r0, h1⟩
theorem mk131 {x0 : Int} {x1 : PV} (h0 : (-9223372036854775808 ≤ x0 ∧ x0 < 9223372036854775808)) (h1 : WfT Try.prog 129 x1) : WfT Try.prog 131 (.agg [PV.int x0, x1]) := by
  refine .struct Try.underlying131 rfl fun i f q hf hq => ?_
  match i, hf, hq with
  | 0, hf, hq => obtain rfl := Option.some.inj hf; obtain rfl := Option.some.inj hq; exact .int (k := .i64) (by kernel_rfl) (wf_mk64 h0.1 h0.2)
  | 1, hf, hq => obtain rfl := Option.some.inj hf; obtain rfl := Option.some.inj hq; exact h1
  | n + 2, hf, hq => simp at hq
theorem eq_142 {p : PV} (h : WfT Try.prog 131 p) : Rn 142 [p, p] [.bool true] := by
  obtain ⟨x0, x1, rfl, xh0, xh1⟩ := wf131 h
  have c0 := eq_185 xh1
  exact Is.of e142 ((c0).mp fun n h => by simp [F142, neF, h])
theorem eq_66 {p : PV} (h : WfT Try.prog 66 p) : Rn 66 [p, p] [.bool true] := by
  obtain ⟨l, rfl, hl, he⟩ := wf_slice (e := 131) (by kernel_rfl) h
  have hm : maxLen = 9223372036854775807 := rfl
  have hloop := loop_run (body := fun n => L66_0 (ev Try.prog sg n) n) (e := .x 0) (res := []) (fun i => [.int i, .list l, .list l]) l.length (fun i hi => ?_) (Evt.all fun n => ?_) (by simp)
  · refine Is.of e66 (hloop.mp fun n h => ?_)
    simp at h
    simp (disch := omega) [F66, neF, h]
  · refine (eq_142 (he _ (nth_mem hi))).mp fun n h => ?_
    simp (disch := omega) [L66_0, ltT, geT, wrap64, h]
  · simp (disch := omega) [L66_0, ltF]
mutual
inductive Gd149 : Int → PV → PV → Prop
  | mk {k : Int} {p : PV} {y0 : List PV} : (h0 : Gd149L (k + (nth p.toAgg 0).cn + (nth p.toAgg 1).cn) (nth p.toAgg 2).toList y0) → Gd149 k p (PV.agg [PV.int (k), PV.int (k + (nth p.toAgg 0).cn), PV.list y0])
inductive Gd149L : Int → List PV → List PV → Prop
  | nil {k : Int} : Gd149L k [] []
  | cons {k : Int} {x y : PV} {l m : List PV} : Gd149 k x y → Gd149L (k + x.cn) l m → Gd149L k (x :: l) (y :: m)
end
def gd149 (k : Int) (p q : PV) : Prop := Gd149 k p q
theorem Gd149L_of : ∀ {k : Int} {l m : List PV}, Goods gd149 k l m → Gd149L k l m
  | _, [], [], _ => .nil
  | _, _ :: _, _ :: _, h => .cons h.1 (Gd149L_of h.2)
  | _, [], _ :: _, h => h.elim
  | _, _ :: _, [], h => h.elim
theorem Gd149L_to : ∀ {k : Int} {l m : List PV}, Gd149L k l m → Goods gd149 k l m
  | _, [], [], _ => trivial
  | _, _ :: _, _ :: _, .cons h1 h2 => ⟨h1, Gd149L_to h2⟩
theorem gd149_out {k : Int} {p q : PV} (h : gd149 k p q) : ∃ y0, q = PV.agg [PV.int (k), PV.int (k + (nth p.toAgg 0).cn), PV.list y0] ∧ Goods gd149 (k + (nth p.toAgg 0).cn + (nth p.toAgg 1).cn) (nth p.toAgg 2).toList y0 := by
  cases h with
  | mk h0 => exact ⟨_, rfl, Gd149L_to h0⟩
theorem gd149_in {k : Int} {p q : PV} (h : ∃ y0, q = PV.agg [PV.int (k), PV.int (k + (nth p.toAgg 0).cn), PV.list y0] ∧ Goods gd149 (k + (nth p.toAgg 0).cn + (nth p.toAgg 1).cn) (nth p.toAgg 2).toList y0) : gd149 k p q := by
  obtain ⟨y0, rfl, h0⟩ := h
  exact .mk (Gd149L_of h0)
theorem cn_147_aux : ∀ (N : Nat) (p : PV), SizeOf.sizeOf p = N → WfT Try.prog 147 p → p.cn ≤ 64 * p.wt := by
  intro N
  induction N using Nat.strongRecOn with
  | ind N ih =>
  intro p hN h 
  subst hN
  obtain ⟨l, rfl, hl, he⟩ := wf_slice (e := 149) (by kernel_rfl) h
  have h1 := cns_le (S := 64) (l := l) fun q hxm => by
    have hx := he q hxm
    obtain ⟨x0, x1, x2, rfl, xh0, xh1, xh2⟩ := wf149 hx
    have c2 := ih _ (by have := size_mem hxm; simp at this ⊢; omega) _ rfl xh2
    simp only [cn_agg, cns_cons, cns_nil, wt_agg, wts_cons, wts_nil, cn_int, wt_int, cn_bool, wt_bool, cn_str, wt_str]
    omega
  simp only [cn_list, wt_list]
  omega
theorem cn_147 {p : PV} (h : WfT Try.prog 147 p) : p.cn ≤ 64 * p.wt := by
  exact cn_147_aux _ _ rfl h
theorem mark_144_aux : ∀ (N : Nat) (p : PV), SizeOf.sizeOf p = N → WfT Try.prog 147 p → ∀ {k : Int}, 0 ≤ k → k + p.cn ≤ 1099511627776 → ∃ m, Goods gd149 k p.toList m ∧ Rn 144 [p, .int k] [.int (k + p.cn), .list m] := by
  intro N
  induction N using Nat.strongRecOn with
  | ind N ih =>
  intro p hN h k hk hB
  subst hN
  obtain ⟨l, rfl, hl, he⟩ := wf_slice (e := 149) (by kernel_rfl) h
  have hm : maxLen = 9223372036854775807 := rfl
  simp only [cn_list] at hB
  have key := mark_loop (body := fun n => L144_0 (ev Try.prog sg n) n) (pay := fun i k m => [.int i, .int k, .list m]) (res := fun k m => [.list m, .int k]) (good := gd149) (B := 1099511627776) (l := l) (fun d r x k hxm hlen h1 h2 => ?_) (fun k m hlen => Evt.all fun n => ?_) k hk hB
  · obtain ⟨m, hg, hloop⟩ := key
    refine ⟨m, hg, Is.of e144 (hloop.mp fun n h => ?_)⟩
    simp at h
    simp [F144, h]
  · have hx := he x hxm
    obtain ⟨x0, x1, x2, rfl, xh0, xh1, xh2⟩ := wf149 hx
    obtain ⟨l2, rfl, hl2, he2⟩ := wf_slice (e := 149) (by kernel_rfl) xh2
    simp at hlen h2
    obtain ⟨y2, g2, c0⟩ := ih _ (by have := size_mem hxm; simp at this ⊢; omega) _ rfl xh2 (k := k + 1 + 1) (by omega) (by simp; omega)
    refine ⟨_, gd149_in ⟨y2, rfl, by simpa using g2⟩, (c0).mp fun n h => ?_⟩
    simp at h
    simp (disch := omega) [L144_0, ltT, geT, wrap64, nth_mid, set_mid, h]
    try omega
  · simp (disch := omega) [L144_0, ltF, hlen]
theorem mark_144 {p : PV} (h : WfT Try.prog 147 p) {k : Int} (hk : 0 ≤ k) (hB : k + p.cn ≤ 1099511627776) : ∃ m, Goods gd149 k p.toList m ∧ Rn 144 [p, .int k] [.int (k + p.cn), .list m] := by
  exact mark_144_aux _ _ rfl h hk hB
def gd151 (k : Int) (p q : PV) : Prop := ∃ y0, q = PV.agg [PV.int (k), PV.agg [PV.int (k + (nth p.toAgg 0).cn), PV.int (k + (nth p.toAgg 0).cn + (nth (nth p.toAgg 1).toAgg 0).cn), PV.list y0]] ∧ Goods gd149 (k + (nth p.toAgg 0).cn + (nth (nth p.toAgg 1).toAgg 0).cn + (nth (nth p.toAgg 1).toAgg 1).cn) (nth (nth p.toAgg 1).toAgg 2).toList y0
theorem cn_86 {p : PV} (h : WfT Try.prog 86 p) : p.cn ≤ 64 * p.wt := by
  obtain ⟨l, rfl, hl, he⟩ := wf_slice (e := 151) (by kernel_rfl) h
  have h1 := cns_le (S := 64) (l := l) fun q hxm => by
    have hx := he q hxm
    obtain ⟨x0, x1, rfl, xh0, xh1⟩ := wf151 hx
    obtain ⟨x1_0, x1_1, x1_2, rfl, x1_h0, x1_h1, x1_h2⟩ := wf149 xh1
    have c3 := cn_147 x1_h2
    simp only [cn_agg, cns_cons, cns_nil, wt_agg, wts_cons, wts_nil, cn_int, wt_int, cn_bool, wt_bool, cn_str, wt_str]
    omega
  simp only [cn_list, wt_list]
  omega
theorem mark_68 {p : PV} (h : WfT Try.prog 86 p) {k : Int} (hk : 0 ≤ k) (hB : k + p.cn ≤ 1099511627776) : ∃ m, Goods gd151 k p.toList m ∧ Rn 68 [p, .int k] [.int (k + p.cn), .list m] := by
  obtain ⟨l, rfl, hl, he⟩ := wf_slice (e := 151) (by kernel_rfl) h
  have hm : maxLen = 9223372036854775807 := rfl
  simp only [cn_list] at hB
  have key := mark_loop (body := fun n => L68_0 (ev Try.prog sg n) n) (pay := fun i k m => [.int i, .int k, .list m]) (res := fun k m => [.list m, .int k]) (good := gd151) (B := 1099511627776) (l := l) (fun d r x k hxm hlen h1 h2 => ?_) (fun k m hlen => Evt.all fun n => ?_) k hk hB
  · obtain ⟨m, hg, hloop⟩ := key
    refine ⟨m, hg, Is.of e68 (hloop.mp fun n h => ?_)⟩
    simp at h
    simp [F68, h]
  · have hx := he x hxm
    obtain ⟨x0, x1, rfl, xh0, xh1⟩ := wf151 hx
    obtain ⟨x1_0, x1_1, x1_2, rfl, x1_h0, x1_h1, x1_h2⟩ := wf149 xh1
    obtain ⟨l3, rfl, hl3, he3⟩ := wf_slice (e := 149) (by kernel_rfl) x1_h2
    simp at hlen h2
    obtain ⟨y3, g3, c0⟩ := mark_144 x1_h2 (k := k + 1 + 1 + 1) (by omega) (by simp; omega)
    refine ⟨_, ⟨y3, rfl, by simpa using g3⟩, (c0).mp fun n h => ?_⟩
    simp at h
    simp (disch := omega) [L68_0, ltT, geT, wrap64, nth_mid, set_mid, h]
    try omega
  · simp (disch := omega) [L68_0, ltF, hlen]
theorem mark_4164 {p : PV} (h : WfT Try.prog 86 p) {k : Int} (hk : 0 ≤ k) (hB : k + p.cn ≤ 1099511627776) : ∃ m, Goods gd151 k p.toList m ∧ Rn 4164 [p, .int k] [.int (k + p.cn)] := by
  obtain ⟨l, rfl, hl, he⟩ := wf_slice (e := 151) (by kernel_rfl) h
  have hm : maxLen = 9223372036854775807 := rfl
  simp only [cn_list] at hB
  have key := mark_loop (body := fun n => L4164_0 (ev Try.prog sg n) n) (pay := fun i k m => [.int i, .list m, .int k]) (res := fun k m => [.int k]) (good := gd151) (B := 1099511627776) (l := l) (fun d r x k hxm hlen h1 h2 => ?_) (fun k m hlen => Evt.all fun n => ?_) k hk hB
  · obtain ⟨m, hg, hloop⟩ := key
    refine ⟨m, hg, Is.of e4164 (hloop.mp fun n h => ?_)⟩
    simp at h
    simp [F4164, h]
  · have hx := he x hxm
    obtain ⟨x0, x1, rfl, xh0, xh1⟩ := wf151 hx
    obtain ⟨x1_0, x1_1, x1_2, rfl, x1_h0, x1_h1, x1_h2⟩ := wf149 xh1
    obtain ⟨l3, rfl, hl3, he3⟩ := wf_slice (e := 149) (by kernel_rfl) x1_h2
    simp at hlen h2
    obtain ⟨y3, g3, c0⟩ := mark_144 x1_h2 (k := k + 1 + 1 + 1) (by omega) (by simp; omega)
    refine ⟨_, ⟨y3, rfl, by simpa using g3⟩, (c0).mp fun n h => ?_⟩
    simp at h
    simp (disch := omega) [L4164_0, ltT, geT, wrap64, nth_mid, set_mid, h]
    try omega
  · simp (disch := omega) [L4164_0, ltF, hlen]
def gd196 (k : Int) (p q : PV) : Prop := q = PV.agg [PV.int (k), PV.int (k + (nth p.toAgg 0).cn), PV.int (k + (nth p.toAgg 0).cn + (nth p.toAgg 1).cn)]
theorem cn_129 {p : PV} (h : WfT Try.prog 129 p) : p.cn ≤ 64 * p.wt := by
  obtain ⟨l, rfl, hl, he⟩ := wf_slice (e := 196) (by kernel_rfl) h
  have h1 := cns_le (S := 64) (l := l) fun q hxm => by
    have hx := he q hxm
    obtain ⟨x0, x1, x2, rfl, xh0, xh1, xh2⟩ := wf196 hx
    simp only [cn_agg, cns_cons, cns_nil, wt_agg, wts_cons, wts_nil, cn_int, wt_int, cn_bool, wt_bool, cn_str, wt_str]
    omega
  simp only [cn_list, wt_list]
  omega
theorem mark_145 {p : PV} (h : WfT Try.prog 129 p) {k : Int} (hk : 0 ≤ k) (hB : k + p.cn ≤ 1099511627776) : ∃ m, Goods gd196 k p.toList m ∧ Rn 145 [p, .int k] [.int (k + p.cn), .list m] := by
  obtain ⟨l, rfl, hl, he⟩ := wf_slice (e := 196) (by kernel_rfl) h
  have hm : maxLen = 9223372036854775807 := rfl
  simp only [cn_list] at hB
  have key := mark_loop (body := fun n => L145_0 (ev Try.prog sg n) n) (pay := fun i k m => [.int i, .int k, .list m]) (res := fun k m => [.list m, .int k]) (good := gd196) (B := 1099511627776) (l := l) (fun d r x k hxm hlen h1 h2 => ?_) (fun k m hlen => Evt.all fun n => ?_) k hk hB
  · obtain ⟨m, hg, hloop⟩ := key
    refine ⟨m, hg, Is.of e145 (hloop.mp fun n h => ?_)⟩
    simp at h
    simp [F145, h]
  · have hx := he x hxm
    obtain ⟨x0, x1, x2, rfl, xh0, xh1, xh2⟩ := wf196 hx
    simp at hlen h2
    refine ⟨_, rfl, Evt.all fun n => ?_⟩
    simp (disch := omega) [L145_0, ltT, geT, wrap64, nth_mid, set_mid]
    try omega
  · simp (disch := omega) [L145_0, ltF, hlen]
def gd131 (k : Int) (p q : PV) : Prop := ∃ y0, q = PV.agg [PV.int (k), PV.list y0] ∧ Goods gd196 (k + (nth p.toAgg 0).cn) (nth p.toAgg 1).toList y0
theorem cn_66 {p : PV} (h : WfT Try.prog 66 p) : p.cn ≤ 64 * p.wt := by
  obtain ⟨l, rfl, hl, he⟩ := wf_slice (e := 131) (by kernel_rfl) h
  have h1 := cns_le (S := 64) (l := l) fun q hxm => by
    have hx := he q hxm
    obtain ⟨x0, x1, rfl, xh0, xh1⟩ := wf131 hx
    have c1 := cn_129 xh1
    simp only [cn_agg, cns_cons, cns_nil, wt_agg, wts_cons, wts_nil, cn_int, wt_int, cn_bool, wt_bool, cn_str, wt_str]
    omega
  simp only [cn_list, wt_list]
  omega
theorem mark_69 {p : PV} (h : WfT Try.prog 66 p) {k : Int} (hk : 0 ≤ k) (hB : k + p.cn ≤ 1099511627776) : ∃ m, Goods gd131 k p.toList m ∧ Rn 69 [p, .int k] [.int (k + p.cn), .list m] := by
  obtain ⟨l, rfl, hl, he⟩ := wf_slice (e := 131) (by kernel_rfl) h
  have hm : maxLen = 9223372036854775807 := rfl
  simp only [cn_list] at hB
  have key := mark_loop (body := fun n => L69_0 (ev Try.prog sg n) n) (pay := fun i k m => [.int i, .int k, .list m]) (res := fun k m => [.list m, .int k]) (good := gd131) (B := 1099511627776) (l := l) (fun d r x k hxm hlen h1 h2 => ?_) (fun k m hlen => Evt.all fun n => ?_) k hk hB
  · obtain ⟨m, hg, hloop⟩ := key
    refine ⟨m, hg, Is.of e69 (hloop.mp fun n h => ?_)⟩
    simp at h
    simp [F69, h]
  · have hx := he x hxm
    obtain ⟨x0, x1, rfl, xh0, xh1⟩ := wf131 hx
    obtain ⟨l1, rfl, hl1, he1⟩ := wf_slice (e := 196) (by kernel_rfl) xh1
    simp at hlen h2
    obtain ⟨y1, g1, c0⟩ := mark_145 xh1 (k := k + 1) (by omega) (by simp; omega)
    refine ⟨_, ⟨y1, rfl, by simpa using g1⟩, (c0).mp fun n h => ?_⟩
    simp at h
    simp (disch := omega) [L69_0, ltT, geT, wrap64, nth_mid, set_mid, h]
    try omega
  · simp (disch := omega) [L69_0, ltF, hlen]
theorem mark_4165 {p : PV} (h : WfT Try.prog 66 p) {k : Int} (hk : 0 ≤ k) (hB : k + p.cn ≤ 1099511627776) : ∃ m, Goods gd131 k p.toList m ∧ Rn 4165 [p, .int k] [.int (k + p.cn)] := by
  obtain ⟨l, rfl, hl, he⟩ := wf_slice (e := 131) (by kernel_rfl) h
  have hm : maxLen = 9223372036854775807 := rfl
  simp only [cn_list] at hB
  have key := mark_loop (body := fun n => L4165_0 (ev Try.prog sg n) n) (pay := fun i k m => [.int i, .list m, .int k]) (res := fun k m => [.int k]) (good := gd131) (B := 1099511627776) (l := l) (fun d r x k hxm hlen h1 h2 => ?_) (fun k m hlen => Evt.all fun n => ?_) k hk hB
  · obtain ⟨m, hg, hloop⟩ := key
    refine ⟨m, hg, Is.of e4165 (hloop.mp fun n h => ?_)⟩
    simp at h
    simp [F4165, h]
  · have hx := he x hxm
    obtain ⟨x0, x1, rfl, xh0, xh1⟩ := wf131 hx
    obtain ⟨l1, rfl, hl1, he1⟩ := wf_slice (e := 196) (by kernel_rfl) xh1
    simp at hlen h2
    obtain ⟨y1, g1, c0⟩ := mark_145 xh1 (k := k + 1) (by omega) (by simp; omega)
    refine ⟨_, ⟨y1, rfl, by simpa using g1⟩, (c0).mp fun n h => ?_⟩
    simp at h
    simp (disch := omega) [L4165_0, ltT, geT, wrap64, nth_mid, set_mid, h]
    try omega
  · simp (disch := omega) [L4165_0, ltF, hlen]
theorem mark_4240 {p : PV} (h : WfT Try.prog 147 p) {k : Int} (hk : 0 ≤ k) (hB : k + p.cn ≤ 1099511627776) : ∃ m, Goods gd149 k p.toList m ∧ Rn 4240 [p, .int k] [.int (k + p.cn)] := by
  obtain ⟨l, rfl, hl, he⟩ := wf_slice (e := 149) (by kernel_rfl) h
  have hm : maxLen = 9223372036854775807 := rfl
  simp only [cn_list] at hB
  have key := mark_loop (body := fun n => L4240_0 (ev Try.prog sg n) n) (pay := fun i k m => [.int i, .list m, .int k]) (res := fun k m => [.int k]) (good := gd149) (B := 1099511627776) (l := l) (fun d r x k hxm hlen h1 h2 => ?_) (fun k m hlen => Evt.all fun n => ?_) k hk hB
  · obtain ⟨m, hg, hloop⟩ := key
    refine ⟨m, hg, Is.of e4240 (hloop.mp fun n h => ?_)⟩
    simp at h
    simp [F4240, h]
  · have hx := he x hxm
    obtain ⟨x0, x1, x2, rfl, xh0, xh1, xh2⟩ := wf149 hx
    obtain ⟨l2, rfl, hl2, he2⟩ := wf_slice (e := 149) (by kernel_rfl) xh2
    simp at hlen h2
    obtain ⟨y2, g2, c0⟩ := mark_144 xh2 (k := k + 1 + 1) (by omega) (by simp; omega)
    refine ⟨_, gd149_in ⟨y2, rfl, by simpa using g2⟩, (c0).mp fun n h => ?_⟩
    simp at h
    simp (disch := omega) [L4240_0, ltT, geT, wrap64, nth_mid, set_mid, h]
    try omega
  · simp (disch := omega) [L4240_0, ltF, hlen]
theorem mark_4241 {p : PV} (h : WfT Try.prog 129 p) {k : Int} (hk : 0 ≤ k) (hB : k + p.cn ≤ 1099511627776) : ∃ m, Goods gd196 k p.toList m ∧ Rn 4241 [p, .int k] [.int (k + p.cn)] := by
  obtain ⟨l, rfl, hl, he⟩ := wf_slice (e := 196) (by kernel_rfl) h
  have hm : maxLen = 9223372036854775807 := rfl
  simp only [cn_list] at hB
  have key := mark_loop (body := fun n => L4241_0 (ev Try.prog sg n) n) (pay := fun i k m => [.int i, .list m, .int k]) (res := fun k m => [.int k]) (good := gd196) (B := 1099511627776) (l := l) (fun d r x k hxm hlen h1 h2 => ?_) (fun k m hlen => Evt.all fun n => ?_) k hk hB
  · obtain ⟨m, hg, hloop⟩ := key
    refine ⟨m, hg, Is.of e4241 (hloop.mp fun n h => ?_)⟩
    simp at h
    simp [F4241, h]
  · have hx := he x hxm
    obtain ⟨x0, x1, x2, rfl, xh0, xh1, xh2⟩ := wf196 hx
    simp at hlen h2
    refine ⟨_, rfl, Evt.all fun n => ?_⟩
    simp (disch := omega) [L4241_0, ltT, geT, wrap64, nth_mid, set_mid]
    try omega
  · simp (disch := omega) [L4241_0, ltF, hlen]
theorem held_146 {p : PV} (h : WfT Try.prog 129 p) {m : List PV} {k : Int} (hk : 0 ≤ k) (hB : k + p.cn ≤ 1099511627776) (hg : Goods gd196 k p.toList m) : Rn 146 [.list m, .int k] [.int (k + p.cn)] := by
  obtain ⟨l, rfl, hl, he⟩ := wf_slice (e := 196) (by kernel_rfl) h
  have hm : maxLen = 9223372036854775807 := rfl
  simp only [cn_list] at hB
  have hlen := hg.len
  simp only [toList_list] at hlen
  have hloop := held_loop (body := fun n => L146_0 (ev Try.prog sg n) n) (pay := fun i k => [.int i, .list m, .int k]) (good := fun k x y => x ∈ l ∧ gd196 k x y) (B := 1099511627776) (l := l) (m := m) hlen (fun i k x hi hgx h1 h2 => ?_) (fun k => Evt.all fun n => ?_) k hk hB (Goods.mem hg)
  · refine Is.of e146 (hloop.mp fun n h => ?_)
    simp at h
    simp [F146, h]
  · obtain ⟨hxm, hgx⟩ := hgx
    have hx := he x hxm
    obtain ⟨x0, x1, x2, rfl, xh0, xh1, xh2⟩ := wf196 hx
    simp at h2
    have hgx : nth m i = _ := hgx
    simp at hgx
    refine Evt.all fun n => ?_
    simp (disch := omega) [L146_0, ltT, geT, wrap64, neF, hgx]
    try omega
  · simp (disch := omega) [L146_0, ltF]
theorem held_70 {p : PV} (h : WfT Try.prog 66 p) {m : List PV} {k : Int} (hk : 0 ≤ k) (hB : k + p.cn ≤ 1099511627776) (hg : Goods gd131 k p.toList m) : Rn 70 [.list m, .int k] [.int (k + p.cn)] := by
  obtain ⟨l, rfl, hl, he⟩ := wf_slice (e := 131) (by kernel_rfl) h
  have hm : maxLen = 9223372036854775807 := rfl
  simp only [cn_list] at hB
  have hlen := hg.len
  simp only [toList_list] at hlen
  have hloop := held_loop (body := fun n => L70_0 (ev Try.prog sg n) n) (pay := fun i k => [.int i, .list m, .int k]) (good := fun k x y => x ∈ l ∧ gd131 k x y) (B := 1099511627776) (l := l) (m := m) hlen (fun i k x hi hgx h1 h2 => ?_) (fun k => Evt.all fun n => ?_) k hk hB (Goods.mem hg)
  · refine Is.of e70 (hloop.mp fun n h => ?_)
    simp at h
    simp [F70, h]
  · obtain ⟨hxm, hgx⟩ := hgx
    have hx := he x hxm
    obtain ⟨x0, x1, rfl, xh0, xh1⟩ := wf131 hx
    obtain ⟨l1, rfl, hl1, he1⟩ := wf_slice (e := 196) (by kernel_rfl) xh1
    simp at h2
    obtain ⟨y1, hgx, g1⟩ := hgx
    have c0 := held_146 xh1 (k := k + 1) (by omega) (by simp; omega) (by simpa using g1)
    refine (c0).mp fun n h => ?_
    simp at h hgx
    simp (disch := omega) [L70_0, ltT, ltF, geT, wrap64, neF, hgx, h]
    try omega
  · simp (disch := omega) [L70_0, ltF]
end Go.Proofs.Ytijgokehlicmnaa.GFnExactGen
