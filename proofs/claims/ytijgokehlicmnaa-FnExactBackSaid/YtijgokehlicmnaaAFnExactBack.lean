/- The helpers of the law FnExactBack: sizes, copies, comparisons, marks. Each under the conditions that it names. -/
import Derived.Test.YtijgokehlicmnaaGFnExactBack
import Derived.Test.YtijgokehlicmnaaRscZp
namespace Go.Proofs.Ytijgokehlicmnaa.GFnExactBack
open Go Go.Rsc Go.Proofs.Ytijgokehlicmnaa
set_option maxRecDepth 100000
set_option linter.unusedVariables false
set_option linter.unusedSimpArgs false
theorem size_mem {l : List PV} {x : PV} (h : x ∈ l) : SizeOf.sizeOf x < SizeOf.sizeOf (PV.list l) := by
  have := List.sizeOf_lt_of_mem h
  simp; omega
abbrev Rn (f : FuncId) (a r : List PV) : Prop := Is Try.prog sg f a r
theorem sz_78 {p : PV} (h : WfT Try.prog 22 p) {x : Int} (hx : 0 ≤ x) (hB : x ≤ 1048576) : Rn 78 [p, .int x] [.int (szR x p.wt)] := by
  obtain ⟨l, rfl, hl, he⟩ := wf_slice (e := 3) (by kernel_rfl) h
  have hz : PV.wts l = 0 := wts_zero fun q hq => by
    have hq := he q hq
    obtain ⟨x0, rfl, xr⟩ := wf_int (k := .i64) (by kernel_rfl) hq
    have xr := wf64 xr
    simp
  have hm : maxLen = 9223372036854775807 := rfl
  refine Is.of e78 (Evt.all fun n => ?_)
  by_cases s : x - l.length < 0
  · rw [szR_lt (by simp [hz]; omega)]
    simp (disch := omega) [F78, wrap64, ltT]
  · rw [szR_ge (by simp [hz]; omega)]
    simp (disch := omega) [F78, wrap64, ltF, hz]
theorem wf24 {p : PV} (h : WfT Try.prog 24 p) : ∃ x0 x1 x2 x3, p = .agg [x0, PV.int x1, PV.int x2, PV.int x3] ∧ WfT Try.prog 22 x0 ∧ (-9223372036854775808 ≤ x1 ∧ x1 < 9223372036854775808) ∧ (-9223372036854775808 ≤ x2 ∧ x2 < 9223372036854775808) ∧ (-9223372036854775808 ≤ x3 ∧ x3 < 9223372036854775808) := by
  obtain ⟨l, rfl, hl, hf⟩ := wf_struct Try.underlying24 h
  obtain ⟨y0, y1, y2, y3, rfl⟩ : ∃ y0 y1 y2 y3, l = [y0, y1, y2, y3] := by
    match l, hl with
    | [a0, a1, a2, a3], _ => exact ⟨a0, a1, a2, a3, rfl⟩
  have h0 := hf 0 _ _ rfl rfl
  have h1 := hf 1 _ _ rfl rfl
  obtain ⟨x1, rfl, r1⟩ := wf_int (k := .i64) (by kernel_rfl) h1
  have h2 := hf 2 _ _ rfl rfl
  obtain ⟨x2, rfl, r2⟩ := wf_int (k := .i64) (by kernel_rfl) h2
  have h3 := hf 3 _ _ rfl rfl
  obtain ⟨x3, rfl, r3⟩ := wf_int (k := .i64) (by kernel_rfl) h3
  exact ⟨y0, x1, x2, x3, rfl, h0, wf64 r1, wf64 r2, wf64 r3⟩
theorem mk24 {x0 : PV} {x1 : Int} {x2 : Int} {x3 : Int} (h0 : WfT Try.prog 22 x0) (h1 : (-9223372036854775808 ≤ x1 ∧ x1 < 9223372036854775808)) (h2 : (-9223372036854775808 ≤ x2 ∧ x2 < 9223372036854775808)) (h3 : (-9223372036854775808 ≤ x3 ∧ x3 < 9223372036854775808)) : WfT Try.prog 24 (.agg [x0, PV.int x1, PV.int x2, PV.int x3]) := by
  refine .struct Try.underlying24 rfl fun i f q hf hq => ?_
  match i, hf, hq with
  | 0, hf, hq => obtain rfl := Option.some.inj hf; obtain rfl := Option.some.inj hq; exact h0
  | 1, hf, hq => obtain rfl := Option.some.inj hf; obtain rfl := Option.some.inj hq; exact .int (k := .i64) (by kernel_rfl) (wf_mk64 h1.1 h1.2)
  | 2, hf, hq => obtain rfl := Option.some.inj hf; obtain rfl := Option.some.inj hq; exact .int (k := .i64) (by kernel_rfl) (wf_mk64 h2.1 h2.2)
  | 3, hf, hq => obtain rfl := Option.some.inj hf; obtain rfl := Option.some.inj hq; exact .int (k := .i64) (by kernel_rfl) (wf_mk64 h3.1 h3.2)
  | n + 4, hf, hq => simp at hq
theorem sz_12 {p : PV} (h : WfT Try.prog 24 p) {x : Int} (hx : 0 ≤ x) (hB : x ≤ 1048576) : Rn 12 [p, .int x] [.int (szR x p.wt)] := by
  obtain ⟨x0, x1, x2, x3, rfl, xh0, xh1, xh2, xh3⟩ := wf24 h
  have c0 := sz_78 xh0 (x := x) (by omega) (by omega)
  by_cases s0 : szR (x) x0.wt < 0
  · have q : szR x (PV.agg [x0, PV.int x1, PV.int x2, PV.int x3]).wt = -1 := szR_lt (by have := (szR_neg (w := x0.wt) (x := x) (by omega)).1 s0; simp; omega)
    rw [q]
    exact Is.of e12 ((c0).mp fun n h => by simp [F12, h, ltT s0])
  have g0 : (x0.wt : Int) ≤ x := by have := mt (szR_neg (w := x0.wt) (x := x) (by omega)).2 s0; omega
  have d0 : szR (x) x0.wt = x - x0.wt := szR_ge g0
  rw [d0] at c0 s0
  have q : szR x (PV.agg [x0, PV.int x1, PV.int x2, PV.int x3]).wt = x - x0.wt := by rw [szR_ge (by simp <;> omega)]; simp <;> omega
  rw [q]
  exact Is.of e12 ((c0).mp fun n h => by simp [F12, h, ltF (Int.not_lt.1 s0)])
theorem to_22 {p : PV} (h : WfT Try.prog 22 p) (hw : p.wt ≤ 1048576) : Rn 22 [p] [p] := by
  obtain ⟨l, rfl, hl, he⟩ := wf_slice (e := 3) (by kernel_rfl) h
  simp at hw
  refine Is.of e22 ?_
  have hloop := loop_run (body := fun n => L22_0 (ev Try.prog sg n) n) (e := .x 0) (res := [.list l]) (fun i => [.int i, .list l, .list (l.take i ++ List.replicate (l.length - i) (PV.int (0 : Int)))]) l.length (fun i hi => ?_) (Evt.all fun n => ?_) (by simp)
  · refine hloop.mp fun n h => ?_
    simp at h
    simp (disch := omega) [F22, leT, geT, h]
  · refine Evt.all fun n => ?_
    simp (disch := omega) [L22_0, ltT, geT, wrap64, fill_set, hi]
  · simp (disch := omega) [L22_0, ltF]
theorem to_14 {p : PV} (h : WfT Try.prog 24 p) (hw : p.wt ≤ 1048576) : Rn 14 [p] [p] := by
  obtain ⟨x0, x1, x2, x3, rfl, xh0, xh1, xh2, xh3⟩ := wf24 h
  simp at hw
  have c0 := to_22 xh0 (by omega)
  exact Is.of e14 ((c0).mp fun n h => by simp [F14, h])
theorem eq_24 {p : PV} (h : WfT Try.prog 22 p) : Rn 24 [p, p] [.bool true] := by
  obtain ⟨l, rfl, hl, he⟩ := wf_slice (e := 3) (by kernel_rfl) h
  have hm : maxLen = 9223372036854775807 := rfl
  have hloop := loop_run (body := fun n => L24_0 (ev Try.prog sg n) n) (e := .x 0) (res := []) (fun i => [.int i, .list l, .list l]) l.length (fun i hi => ?_) (Evt.all fun n => ?_) (by simp)
  · refine Is.of e24 (hloop.mp fun n h => ?_)
    simp at h
    simp (disch := omega) [F24, neF, h]
  · refine Evt.all fun n => ?_
    simp (disch := omega) [L24_0, ltT, geT, wrap64, neF]
  · simp (disch := omega) [L24_0, ltF]
theorem eq_17 {p : PV} (h : WfT Try.prog 24 p) : Rn 17 [p, p] [.bool true] := by
  obtain ⟨x0, x1, x2, x3, rfl, xh0, xh1, xh2, xh3⟩ := wf24 h
  have c0 := eq_24 xh0
  exact Is.of e17 ((c0).mp fun n h => by simp [F17, neF, h])
theorem wf28 {p : PV} (h : WfT Try.prog 28 p) : ∃ x0 x1 x2, p = .agg [PV.int x0, PV.int x1, x2] ∧ (-9223372036854775808 ≤ x0 ∧ x0 < 9223372036854775808) ∧ (-9223372036854775808 ≤ x1 ∧ x1 < 9223372036854775808) ∧ WfT Try.prog 26 x2 := by
  obtain ⟨l, rfl, hl, hf⟩ := wf_struct Try.underlying28 h
  obtain ⟨y0, y1, y2, rfl⟩ : ∃ y0 y1 y2, l = [y0, y1, y2] := by
    match l, hl with
    | [a0, a1, a2], _ => exact ⟨a0, a1, a2, rfl⟩
  have h0 := hf 0 _ _ rfl rfl
  obtain ⟨x0, rfl, r0⟩ := wf_int (k := .i64) (by kernel_rfl) h0
  have h1 := hf 1 _ _ rfl rfl
  obtain ⟨x1, rfl, r1⟩ := wf_int (k := .i64) (by kernel_rfl) h1
  have h2 := hf 2 _ _ rfl rfl
  exact ⟨x0, x1, y2, rfl, wf64 r0, wf64 r1, h2⟩
theorem mk28 {x0 : Int} {x1 : Int} {x2 : PV} (h0 : (-9223372036854775808 ≤ x0 ∧ x0 < 9223372036854775808)) (h1 : (-9223372036854775808 ≤ x1 ∧ x1 < 9223372036854775808)) (h2 : WfT Try.prog 26 x2) : WfT Try.prog 28 (.agg [PV.int x0, PV.int x1, x2]) := by
  refine .struct Try.underlying28 rfl fun i f q hf hq => ?_
  match i, hf, hq with
  | 0, hf, hq => obtain rfl := Option.some.inj hf; obtain rfl := Option.some.inj hq; exact .int (k := .i64) (by kernel_rfl) (wf_mk64 h0.1 h0.2)
  | 1, hf, hq => obtain rfl := Option.some.inj hf; obtain rfl := Option.some.inj hq; exact .int (k := .i64) (by kernel_rfl) (wf_mk64 h1.1 h1.2)
  | 2, hf, hq => obtain rfl := Option.some.inj hf; obtain rfl := Option.some.inj hq; exact h2
  | n + 3, hf, hq => simp at hq
theorem eq_16_of {p : PV} (h : WfT Try.prog 28 p) (IH : ∀ q, SizeOf.sizeOf q < SizeOf.sizeOf p → WfT Try.prog 26 q → Rn 82 [q, q] [.bool true]) : Rn 16 [p, p] [.bool true] := by
  obtain ⟨x0, x1, x2, rfl, xh0, xh1, xh2⟩ := wf28 h
  have c0 := IH _ (by simp <;> omega) xh2
  exact Is.of e16 ((c0).mp fun n h => by simp [F16, neF, h])
theorem eq_82_aux : ∀ (N : Nat) (p : PV), SizeOf.sizeOf p = N → WfT Try.prog 26 p → Rn 82 [p, p] [.bool true] := by
  intro N
  induction N using Nat.strongRecOn with
  | ind N ih =>
  intro p hN h 
  obtain ⟨l, rfl, hl, he⟩ := wf_slice (e := 28) (by kernel_rfl) h
  have hm : maxLen = 9223372036854775807 := rfl
  have hloop := loop_run (body := fun n => L82_0 (ev Try.prog sg n) n) (e := .x 0) (res := []) (fun i => [.int i, .list l, .list l]) l.length (fun i hi => ?_) (Evt.all fun n => ?_) (by simp)
  · refine Is.of e82 (hloop.mp fun n h => ?_)
    simp at h
    simp (disch := omega) [F82, neF, h]
  · refine (eq_16_of (he _ (nth_mem hi)) (fun q hq hw => ih (SizeOf.sizeOf q) (by have := size_mem (nth_mem hi); omega) q rfl hw)).mp fun n h => ?_
    simp (disch := omega) [L82_0, ltT, geT, wrap64, h]
  · simp (disch := omega) [L82_0, ltF]
theorem eq_82 {p : PV} (h : WfT Try.prog 26 p) : Rn 82 [p, p] [.bool true] := by
  exact eq_82_aux _ _ rfl h 
theorem eq_16 {p : PV} (h : WfT Try.prog 28 p) : Rn 16 [p, p] [.bool true] := by
  exact eq_16_of h (fun q _ hw => eq_82 hw) 
def gd3 (k : Int) (p q : PV) : Prop := q = PV.int (k)
theorem cn_22 {p : PV} (h : WfT Try.prog 22 p) : p.cn ≤ 64 * p.wt := by
  obtain ⟨l, rfl, hl, he⟩ := wf_slice (e := 3) (by kernel_rfl) h
  have h1 := cns_le (S := 64) (l := l) fun q hxm => by
    have hx := he q hxm
    obtain ⟨x0, rfl, xr⟩ := wf_int (k := .i64) (by kernel_rfl) hx
    have xr := wf64 xr
    simp only [cn_agg, cns_cons, cns_nil, wt_agg, wts_cons, wts_nil, cn_int, wt_int, cn_bool, wt_bool, cn_str, wt_str]
    omega
  simp only [cn_list, wt_list]
  omega
theorem mark_25 {p : PV} (h : WfT Try.prog 22 p) {k : Int} (hk : 0 ≤ k) (hB : k + p.cn ≤ 1099511627776) : ∃ m, Goods gd3 k p.toList m ∧ Rn 25 [p, .int k] [.int (k + p.cn), .list m] := by
  obtain ⟨l, rfl, hl, he⟩ := wf_slice (e := 3) (by kernel_rfl) h
  have hm : maxLen = 9223372036854775807 := rfl
  simp only [cn_list] at hB
  have key := mark_loop (body := fun n => L25_0 (ev Try.prog sg n) n) (pay := fun i k m => [.int i, .int k, .list m]) (res := fun k m => [.list m, .int k]) (good := gd3) (B := 1099511627776) (l := l) (fun d r x k hxm hlen h1 h2 => ?_) (fun k m hlen => Evt.all fun n => ?_) k hk hB
  · obtain ⟨m, hg, hloop⟩ := key
    refine ⟨m, hg, Is.of e25 (hloop.mp fun n h => ?_)⟩
    simp at h
    simp [F25, h]
  · have hx := he x hxm
    obtain ⟨x0, rfl, xr⟩ := wf_int (k := .i64) (by kernel_rfl) hx
    have xr := wf64 xr
    simp at hlen h2
    refine ⟨_, rfl, Evt.all fun n => ?_⟩
    simp (disch := omega) [L25_0, ltT, geT, wrap64, nth_mid, set_mid]
    try omega
  · simp (disch := omega) [L25_0, ltF, hlen]
def sn24 (p : PV) : Nat := (nth p.toAgg 0).cn
def gs24 (k : Int) (p q : PV) : Prop := ∃ (y0 : List PV), q = .agg [.list y0, (nth p.toAgg 1), (nth p.toAgg 2), (nth p.toAgg 3)] ∧ Goods gd3 (k) (nth p.toAgg 0).toList y0
theorem sn24_le {p : PV} (h : WfT Try.prog 24 p) : sn24 p ≤ 64 * p.wt := by
  obtain ⟨x0, x1, x2, x3, rfl, xh0, xh1, xh2, xh3⟩ := wf24 h
  have c0 := cn_22 xh0
  simp [sn24]
  omega
theorem mark_18 {p : PV} (h : WfT Try.prog 24 p) {k : Int} (hk : 0 ≤ k) (hB : k + sn24 p ≤ 1099511627776) : ∃ q, gs24 k p q ∧ Rn 18 [p, .int k] [.int (k + sn24 p), q] := by
  obtain ⟨x0, x1, x2, x3, rfl, xh0, xh1, xh2, xh3⟩ := wf24 h
  simp [sn24] at hB
  obtain ⟨y0, g0, c0⟩ := mark_25 xh0 (k := k) (by omega) (by omega)
  refine ⟨_, ⟨y0, rfl, by simpa using g0⟩, Is.of e18 ((c0).mp fun n h => ?_)⟩
  simp [F18, h, sn24]
  try omega
theorem mark_4114 {p : PV} (h : WfT Try.prog 24 p) {k : Int} (hk : 0 ≤ k) (hB : k + sn24 p ≤ 1099511627776) : ∃ q, gs24 k p q ∧ Rn 4114 [p, .int k] [.int (k + sn24 p)] := by
  obtain ⟨x0, x1, x2, x3, rfl, xh0, xh1, xh2, xh3⟩ := wf24 h
  simp [sn24] at hB
  obtain ⟨y0, g0, c0⟩ := mark_25 xh0 (k := k) (by omega) (by omega)
  refine ⟨_, ⟨y0, rfl, by simpa using g0⟩, Is.of e4114 ((c0).mp fun n h => ?_)⟩
  simp [F4114, h, sn24]
  try omega
theorem mark_4121 {p : PV} (h : WfT Try.prog 22 p) {k : Int} (hk : 0 ≤ k) (hB : k + p.cn ≤ 1099511627776) : ∃ m, Goods gd3 k p.toList m ∧ Rn 4121 [p, .int k] [.int (k + p.cn)] := by
  obtain ⟨l, rfl, hl, he⟩ := wf_slice (e := 3) (by kernel_rfl) h
  have hm : maxLen = 9223372036854775807 := rfl
  simp only [cn_list] at hB
  have key := mark_loop (body := fun n => L4121_0 (ev Try.prog sg n) n) (pay := fun i k m => [.int i, .list m, .int k]) (res := fun k m => [.int k]) (good := gd3) (B := 1099511627776) (l := l) (fun d r x k hxm hlen h1 h2 => ?_) (fun k m hlen => Evt.all fun n => ?_) k hk hB
  · obtain ⟨m, hg, hloop⟩ := key
    refine ⟨m, hg, Is.of e4121 (hloop.mp fun n h => ?_)⟩
    simp at h
    simp [F4121, h]
  · have hx := he x hxm
    obtain ⟨x0, rfl, xr⟩ := wf_int (k := .i64) (by kernel_rfl) hx
    have xr := wf64 xr
    simp at hlen h2
    refine ⟨_, rfl, Evt.all fun n => ?_⟩
    simp (disch := omega) [L4121_0, ltT, geT, wrap64, nth_mid, set_mid]
    try omega
  · simp (disch := omega) [L4121_0, ltF, hlen]
mutual
inductive Gd28 : Int → PV → PV → Prop
  | mk {k : Int} {p : PV} {y0 : List PV} : (h0 : Gd28L (k + (nth p.toAgg 0).cn + (nth p.toAgg 1).cn) (nth p.toAgg 2).toList y0) → Gd28 k p (PV.agg [PV.int (k), PV.int (k + (nth p.toAgg 0).cn), PV.list y0])
inductive Gd28L : Int → List PV → List PV → Prop
  | nil {k : Int} : Gd28L k [] []
  | cons {k : Int} {x y : PV} {l m : List PV} : Gd28 k x y → Gd28L (k + x.cn) l m → Gd28L k (x :: l) (y :: m)
end
def gd28 (k : Int) (p q : PV) : Prop := Gd28 k p q
theorem Gd28L_of : ∀ {k : Int} {l m : List PV}, Goods gd28 k l m → Gd28L k l m
  | _, [], [], _ => .nil
  | _, _ :: _, _ :: _, h => .cons h.1 (Gd28L_of h.2)
  | _, [], _ :: _, h => h.elim
  | _, _ :: _, [], h => h.elim
theorem Gd28L_to : ∀ {k : Int} {l m : List PV}, Gd28L k l m → Goods gd28 k l m
  | _, [], [], _ => trivial
  | _, _ :: _, _ :: _, .cons h1 h2 => ⟨h1, Gd28L_to h2⟩
theorem gd28_out {k : Int} {p q : PV} (h : gd28 k p q) : ∃ y0, q = PV.agg [PV.int (k), PV.int (k + (nth p.toAgg 0).cn), PV.list y0] ∧ Goods gd28 (k + (nth p.toAgg 0).cn + (nth p.toAgg 1).cn) (nth p.toAgg 2).toList y0 := by
  cases h with
  | mk h0 => exact ⟨_, rfl, Gd28L_to h0⟩
theorem gd28_in {k : Int} {p q : PV} (h : ∃ y0, q = PV.agg [PV.int (k), PV.int (k + (nth p.toAgg 0).cn), PV.list y0] ∧ Goods gd28 (k + (nth p.toAgg 0).cn + (nth p.toAgg 1).cn) (nth p.toAgg 2).toList y0) : gd28 k p q := by
  obtain ⟨y0, rfl, h0⟩ := h
  exact .mk (Gd28L_of h0)
theorem cn_26_aux : ∀ (N : Nat) (p : PV), SizeOf.sizeOf p = N → WfT Try.prog 26 p → p.cn ≤ 64 * p.wt := by
  intro N
  induction N using Nat.strongRecOn with
  | ind N ih =>
  intro p hN h 
  subst hN
  obtain ⟨l, rfl, hl, he⟩ := wf_slice (e := 28) (by kernel_rfl) h
  have h1 := cns_le (S := 64) (l := l) fun q hxm => by
    have hx := he q hxm
    obtain ⟨x0, x1, x2, rfl, xh0, xh1, xh2⟩ := wf28 hx
    have c2 := ih _ (by have := size_mem hxm; simp at this ⊢; omega) _ rfl xh2
    simp only [cn_agg, cns_cons, cns_nil, wt_agg, wts_cons, wts_nil, cn_int, wt_int, cn_bool, wt_bool, cn_str, wt_str]
    omega
  simp only [cn_list, wt_list]
  omega
theorem cn_26 {p : PV} (h : WfT Try.prog 26 p) : p.cn ≤ 64 * p.wt := by
  exact cn_26_aux _ _ rfl h
theorem mark_83_aux : ∀ (N : Nat) (p : PV), SizeOf.sizeOf p = N → WfT Try.prog 26 p → ∀ {k : Int}, 0 ≤ k → k + p.cn ≤ 1099511627776 → ∃ m, Goods gd28 k p.toList m ∧ Rn 83 [p, .int k] [.int (k + p.cn), .list m] := by
  intro N
  induction N using Nat.strongRecOn with
  | ind N ih =>
  intro p hN h k hk hB
  subst hN
  obtain ⟨l, rfl, hl, he⟩ := wf_slice (e := 28) (by kernel_rfl) h
  have hm : maxLen = 9223372036854775807 := rfl
  simp only [cn_list] at hB
  have key := mark_loop (body := fun n => L83_0 (ev Try.prog sg n) n) (pay := fun i k m => [.int i, .int k, .list m]) (res := fun k m => [.list m, .int k]) (good := gd28) (B := 1099511627776) (l := l) (fun d r x k hxm hlen h1 h2 => ?_) (fun k m hlen => Evt.all fun n => ?_) k hk hB
  · obtain ⟨m, hg, hloop⟩ := key
    refine ⟨m, hg, Is.of e83 (hloop.mp fun n h => ?_)⟩
    simp at h
    simp [F83, h]
  · have hx := he x hxm
    obtain ⟨x0, x1, x2, rfl, xh0, xh1, xh2⟩ := wf28 hx
    obtain ⟨l2, rfl, hl2, he2⟩ := wf_slice (e := 28) (by kernel_rfl) xh2
    simp at hlen h2
    obtain ⟨y2, g2, c0⟩ := ih _ (by have := size_mem hxm; simp at this ⊢; omega) _ rfl xh2 (k := k + 1 + 1) (by omega) (by simp; omega)
    refine ⟨_, gd28_in ⟨y2, rfl, by simpa using g2⟩, (c0).mp fun n h => ?_⟩
    simp at h
    simp (disch := omega) [L83_0, ltT, geT, wrap64, nth_mid, set_mid, h]
    try omega
  · simp (disch := omega) [L83_0, ltF, hlen]
theorem mark_83 {p : PV} (h : WfT Try.prog 26 p) {k : Int} (hk : 0 ≤ k) (hB : k + p.cn ≤ 1099511627776) : ∃ m, Goods gd28 k p.toList m ∧ Rn 83 [p, .int k] [.int (k + p.cn), .list m] := by
  exact mark_83_aux _ _ rfl h hk hB
def sn28 (p : PV) : Nat := (nth p.toAgg 2).cn
def gs28 (k : Int) (p q : PV) : Prop := ∃ (y2 : List PV), q = .agg [(nth p.toAgg 0), (nth p.toAgg 1), .list y2] ∧ Goods gd28 (k) (nth p.toAgg 2).toList y2
theorem sn28_le {p : PV} (h : WfT Try.prog 28 p) : sn28 p ≤ 64 * p.wt := by
  obtain ⟨x0, x1, x2, rfl, xh0, xh1, xh2⟩ := wf28 h
  have c2 := cn_26 xh2
  simp [sn28]
  omega
theorem mark_19 {p : PV} (h : WfT Try.prog 28 p) {k : Int} (hk : 0 ≤ k) (hB : k + sn28 p ≤ 1099511627776) : ∃ q, gs28 k p q ∧ Rn 19 [p, .int k] [.int (k + sn28 p), q] := by
  obtain ⟨x0, x1, x2, rfl, xh0, xh1, xh2⟩ := wf28 h
  simp [sn28] at hB
  obtain ⟨y2, g2, c0⟩ := mark_83 xh2 (k := k) (by omega) (by omega)
  refine ⟨_, ⟨y2, rfl, by simpa using g2⟩, Is.of e19 ((c0).mp fun n h => ?_)⟩
  simp [F19, h, sn28]
  try omega
theorem mark_4115 {p : PV} (h : WfT Try.prog 28 p) {k : Int} (hk : 0 ≤ k) (hB : k + sn28 p ≤ 1099511627776) : ∃ q, gs28 k p q ∧ Rn 4115 [p, .int k] [.int (k + sn28 p)] := by
  obtain ⟨x0, x1, x2, rfl, xh0, xh1, xh2⟩ := wf28 h
  simp [sn28] at hB
  obtain ⟨y2, g2, c0⟩ := mark_83 xh2 (k := k) (by omega) (by omega)
  refine ⟨_, ⟨y2, rfl, by simpa using g2⟩, Is.of e4115 ((c0).mp fun n h => ?_)⟩
  simp [F4115, h, sn28]
  try omega
theorem mark_4179 {p : PV} (h : WfT Try.prog 26 p) {k : Int} (hk : 0 ≤ k) (hB : k + p.cn ≤ 1099511627776) : ∃ m, Goods gd28 k p.toList m ∧ Rn 4179 [p, .int k] [.int (k + p.cn)] := by
  obtain ⟨l, rfl, hl, he⟩ := wf_slice (e := 28) (by kernel_rfl) h
  have hm : maxLen = 9223372036854775807 := rfl
  simp only [cn_list] at hB
  have key := mark_loop (body := fun n => L4179_0 (ev Try.prog sg n) n) (pay := fun i k m => [.int i, .list m, .int k]) (res := fun k m => [.int k]) (good := gd28) (B := 1099511627776) (l := l) (fun d r x k hxm hlen h1 h2 => ?_) (fun k m hlen => Evt.all fun n => ?_) k hk hB
  · obtain ⟨m, hg, hloop⟩ := key
    refine ⟨m, hg, Is.of e4179 (hloop.mp fun n h => ?_)⟩
    simp at h
    simp [F4179, h]
  · have hx := he x hxm
    obtain ⟨x0, x1, x2, rfl, xh0, xh1, xh2⟩ := wf28 hx
    obtain ⟨l2, rfl, hl2, he2⟩ := wf_slice (e := 28) (by kernel_rfl) xh2
    simp at hlen h2
    obtain ⟨y2, g2, c0⟩ := mark_83 xh2 (k := k + 1 + 1) (by omega) (by simp; omega)
    refine ⟨_, gd28_in ⟨y2, rfl, by simpa using g2⟩, (c0).mp fun n h => ?_⟩
    simp at h
    simp (disch := omega) [L4179_0, ltT, geT, wrap64, nth_mid, set_mid, h]
    try omega
  · simp (disch := omega) [L4179_0, ltF, hlen]
theorem held_84_aux : ∀ (N : Nat) (p : PV), SizeOf.sizeOf p = N → WfT Try.prog 26 p → ∀ {m : List PV} {k : Int}, 0 ≤ k → k + p.cn ≤ 1099511627776 → Goods gd28 k p.toList m → Rn 84 [.list m, .int k] [.int (k + p.cn)] := by
  intro N
  induction N using Nat.strongRecOn with
  | ind N ih =>
  intro p hN h m k hk hB hg
  subst hN
  obtain ⟨l, rfl, hl, he⟩ := wf_slice (e := 28) (by kernel_rfl) h
  have hm : maxLen = 9223372036854775807 := rfl
  simp only [cn_list] at hB
  have hlen := hg.len
  simp only [toList_list] at hlen
  have hloop := held_loop (body := fun n => L84_0 (ev Try.prog sg n) n) (pay := fun i k => [.int i, .list m, .int k]) (good := fun k x y => x ∈ l ∧ gd28 k x y) (B := 1099511627776) (l := l) (m := m) hlen (fun i k x hi hgx h1 h2 => ?_) (fun k => Evt.all fun n => ?_) k hk hB (Goods.mem hg)
  · refine Is.of e84 (hloop.mp fun n h => ?_)
    simp at h
    simp [F84, h]
  · obtain ⟨hxm, hgx⟩ := hgx
    have hx := he x hxm
    obtain ⟨x0, x1, x2, rfl, xh0, xh1, xh2⟩ := wf28 hx
    obtain ⟨l2, rfl, hl2, he2⟩ := wf_slice (e := 28) (by kernel_rfl) xh2
    simp at h2
    obtain ⟨y2, hgx, g2⟩ := gd28_out hgx
    have c0 := ih _ (by have := size_mem hxm; simp at this ⊢; omega) _ rfl xh2 (k := k + 1 + 1) (by omega) (by simp; omega) (by simpa using g2)
    refine (c0).mp fun n h => ?_
    simp at h hgx
    simp (disch := omega) [L84_0, ltT, ltF, geT, wrap64, neF, hgx, h]
    try omega
  · simp (disch := omega) [L84_0, ltF]
theorem held_84 {p : PV} (h : WfT Try.prog 26 p) {m : List PV} {k : Int} (hk : 0 ≤ k) (hB : k + p.cn ≤ 1099511627776) (hg : Goods gd28 k p.toList m) : Rn 84 [.list m, .int k] [.int (k + p.cn)] := by
  exact held_84_aux _ _ rfl h hk hB hg
theorem held_20 {p : PV} (h : WfT Try.prog 28 p) {q : PV} {k : Int} (hk : 0 ≤ k) (hB : k + sn28 p ≤ 1099511627776) (hg : gs28 k p q) : Rn 20 [q, .int k] [.int (k + sn28 p)] := by
  obtain ⟨x0, x1, x2, rfl, xh0, xh1, xh2⟩ := wf28 h
  simp [sn28] at hB
  obtain ⟨y2, rfl, g2⟩ := hg
  have c0 := held_84 xh2 (k := k) (by omega) (by omega) (by simpa using g2)
  have nn : ∀ (a : Int) (b : Nat), 0 ≤ a → ¬ a + (b : Int) < 0 := fun a b h => by omega
  refine Is.of e20 ((c0).mp fun n h => ?_)
  simp (disch := omega) [F20, h, sn28, ltF]
  try omega
end Go.Proofs.Ytijgokehlicmnaa.GFnExactBack
