/- The helpers of the law FnExactReach: sizes, copies, comparisons, marks. Each under the conditions that it names. -/
import Derived.Test.YthmhgnnaihkjaaaGFnExactReach
import Derived.Test.YthmhgnnaihkjaaaRscZp
namespace Go.Proofs.Ythmhgnnaihkjaaa.GFnExactReach
open Go Go.Rsc Go.Proofs.Ythmhgnnaihkjaaa
set_option maxRecDepth 100000
set_option linter.unusedVariables false
set_option linter.unusedSimpArgs false
theorem size_mem {l : List PV} {x : PV} (h : x ∈ l) : SizeOf.sizeOf x < SizeOf.sizeOf (PV.list l) := by
  have := List.sizeOf_lt_of_mem h
  simp; omega
@[simp] theorem cmpS_ne (s : ByteArray) : cmpS BinOp.neq s s = false := by simp [cmpS]
abbrev Rn (f : FuncId) (a r : List PV) : Prop := Is Try.prog sg f a r
theorem sz_28 {p : PV} (h : WfT Try.prog 22 p) {x : Int} (hx : 0 ≤ x) (hB : x ≤ 1048576) : Rn 28 [p, .int x] [.int (szR x p.wt)] := by
  obtain ⟨l, rfl, hl, he⟩ := wf_slice (e := 3) (by kernel_rfl) h
  have hz : PV.wts l = 0 := wts_zero fun q hq => by
    have hq := he q hq
    obtain ⟨x0, rfl, xr⟩ := wf_int (k := .i64) (by kernel_rfl) hq
    have xr := wf64 xr
    simp
  have hm : maxLen = 9223372036854775807 := rfl
  refine Is.of e28 (Evt.all fun n => ?_)
  by_cases s : x - l.length < 0
  · rw [szR_lt (by simp [hz]; omega)]
    simp (disch := omega) [F28, wrap64, ltT]
  · rw [szR_ge (by simp [hz]; omega)]
    simp (disch := omega) [F28, wrap64, ltF, hz]
theorem wf24 {p : PV} (h : WfT Try.prog 24 p) : ∃ x0 x1 x2 x3, p = .agg [x0, PV.int x1, PV.int x2, PV.int x3] ∧ WfT Try.prog 22 x0 ∧ (-9223372036854775808 ≤ x1 ∧ x1 < 9223372036854775808) ∧ (-9223372036854775808 ≤ x2 ∧ x2 < 9223372036854775808) ∧ (-9223372036854775808 ≤ x3 ∧ x3 < 9223372036854775808) := by
  obtain ⟨l, rfl, hl, hf⟩ := wf_struct Try.underlying24 h
  obtain ⟨y0, y1, y2, y3, rfl⟩ : ∃ y0 y1 y2 y3, l = [y0, y1, y2, y3] := by
    match l, hl with
    | [a0, a1, a2, a3], _ => exact ⟨a0, a1, a2, a3, rfl⟩
  have h0 := hf 0 _ _ rfl rfl
  have h1 := hf 1 _ _ rfl rfl
  obtain ⟨x1, rfl, r1⟩ := wf_int (k := .i64) (by kernel_rfl) h1
  have h2 := hf 2 _ _ rfl rfl
  obtain ⟨x2, rfl, r2⟩ := wf_int (k := .i64) (by kernel_rfl) h2
  have h3 := hf 3 _ _ rfl rfl
  obtain ⟨x3, rfl, r3⟩ := wf_int (k := .i64) (by kernel_rfl) h3
  exact ⟨y0, x1, x2, x3, rfl, h0, wf64 r1, wf64 r2, wf64 r3⟩
theorem mk24 {x0 : PV} {x1 : Int} {x2 : Int} {x3 : Int} (h0 : WfT Try.prog 22 x0) (h1 : (-9223372036854775808 ≤ x1 ∧ x1 < 9223372036854775808)) (h2 : (-9223372036854775808 ≤ x2 ∧ x2 < 9223372036854775808)) (h3 : (-9223372036854775808 ≤ x3 ∧ x3 < 9223372036854775808)) : WfT Try.prog 24 (.agg [x0, PV.int x1, PV.int x2, PV.int x3]) := by
  refine .struct Try.underlying24 rfl fun i f q hf hq => ?_
  match i, hf, hq with
  | 0, hf, hq => obtain rfl := Option.some.inj hf; obtain rfl := Option.some.inj hq; exact h0
  | 1, hf, hq => obtain rfl := Option.some.inj hf; obtain rfl := Option.some.inj hq; exact .int (k := .i64) (by kernel_rfl) (wf_mk64 h1.1 h1.2)
  | 2, hf, hq => obtain rfl := Option.some.inj hf; obtain rfl := Option.some.inj hq; exact .int (k := .i64) (by kernel_rfl) (wf_mk64 h2.1 h2.2)
  | 3, hf, hq => obtain rfl := Option.some.inj hf; obtain rfl := Option.some.inj hq; exact .int (k := .i64) (by kernel_rfl) (wf_mk64 h3.1 h3.2)
  | n + 4, hf, hq => simp at hq
theorem sz_6 {p : PV} (h : WfT Try.prog 24 p) {x : Int} (hx : 0 ≤ x) (hB : x ≤ 1048576) : Rn 6 [p, .int x] [.int (szR x p.wt)] := by
  obtain ⟨x0, x1, x2, x3, rfl, xh0, xh1, xh2, xh3⟩ := wf24 h
  have c0 := sz_28 xh0 (x := x) (by omega) (by omega)
  by_cases s0 : szR (x) x0.wt < 0
  · have q : szR x (PV.agg [x0, PV.int x1, PV.int x2, PV.int x3]).wt = -1 := szR_lt (by have := (szR_neg (w := x0.wt) (x := x) (by omega)).1 s0; simp; omega)
    rw [q]
    exact Is.of e6 ((c0).mp fun n h => by simp [F6, h, ltT s0])
  have g0 : (x0.wt : Int) ≤ x := by have := mt (szR_neg (w := x0.wt) (x := x) (by omega)).2 s0; omega
  have d0 : szR (x) x0.wt = x - x0.wt := szR_ge g0
  rw [d0] at c0 s0
  have q : szR x (PV.agg [x0, PV.int x1, PV.int x2, PV.int x3]).wt = x - x0.wt := by rw [szR_ge (by simp <;> omega)]; simp <;> omega
  rw [q]
  exact Is.of e6 ((c0).mp fun n h => by simp [F6, h, ltF (Int.not_lt.1 s0)])
theorem to_9 {p : PV} (h : WfT Try.prog 22 p) (hw : p.wt ≤ 1048576) : Rn 9 [p] [p] := by
  obtain ⟨l, rfl, hl, he⟩ := wf_slice (e := 3) (by kernel_rfl) h
  simp at hw
  refine Is.of e9 ?_
  have hloop := loop_run (body := fun n => L9_0 (ev Try.prog sg n) n) (e := .x 0) (res := [.list l]) (fun i => [.int i, .list l, .list (l.take i ++ List.replicate (l.length - i) (PV.int (0 : Int)))]) l.length (fun i hi => ?_) (Evt.all fun n => ?_) (by simp)
  · refine hloop.mp fun n h => ?_
    simp at h
    simp (disch := omega) [F9, leT, geT, h]
  · refine Evt.all fun n => ?_
    simp (disch := omega) [L9_0, ltT, geT, wrap64, fill_set, hi]
  · simp (disch := omega) [L9_0, ltF]
theorem to_8 {p : PV} (h : WfT Try.prog 24 p) (hw : p.wt ≤ 1048576) : Rn 8 [p] [p] := by
  obtain ⟨x0, x1, x2, x3, rfl, xh0, xh1, xh2, xh3⟩ := wf24 h
  simp at hw
  have c0 := to_9 xh0 (by omega)
  exact Is.of e8 ((c0).mp fun n h => by simp [F8, h])
theorem eq_12 {p : PV} (h : WfT Try.prog 22 p) : Rn 12 [p, p] [.bool true] := by
  obtain ⟨l, rfl, hl, he⟩ := wf_slice (e := 3) (by kernel_rfl) h
  have hm : maxLen = 9223372036854775807 := rfl
  have hloop := loop_run (body := fun n => L12_0 (ev Try.prog sg n) n) (e := .x 0) (res := []) (fun i => [.int i, .list l, .list l]) l.length (fun i hi => ?_) (Evt.all fun n => ?_) (by simp)
  · refine Is.of e12 (hloop.mp fun n h => ?_)
    simp at h
    simp (disch := omega) [F12, neF, h]
  · refine Evt.all fun n => ?_
    simp (disch := omega) [L12_0, ltT, geT, wrap64, neF]
  · simp (disch := omega) [L12_0, ltF]
theorem eq_11 {p : PV} (h : WfT Try.prog 24 p) : Rn 11 [p, p] [.bool true] := by
  obtain ⟨x0, x1, x2, x3, rfl, xh0, xh1, xh2, xh3⟩ := wf24 h
  have c0 := eq_12 xh0
  exact Is.of e11 ((c0).mp fun n h => by simp [F11, neF, h])
def gd3 (k : Int) (p q : PV) : Prop := q = PV.int (k)
theorem cn_22 {p : PV} (h : WfT Try.prog 22 p) : p.cn ≤ 64 * p.wt := by
  obtain ⟨l, rfl, hl, he⟩ := wf_slice (e := 3) (by kernel_rfl) h
  have h1 := cns_le (S := 64) (l := l) fun q hxm => by
    have hx := he q hxm
    obtain ⟨x0, rfl, xr⟩ := wf_int (k := .i64) (by kernel_rfl) hx
    have xr := wf64 xr
    simp only [cn_agg, cns_cons, cns_nil, wt_agg, wts_cons, wts_nil, cn_int, wt_int, cn_bool, wt_bool, cn_str, wt_str]
    omega
  simp only [cn_list, wt_list]
  omega
theorem mark_14 {p : PV} (h : WfT Try.prog 22 p) {k : Int} (hk : 0 ≤ k) (hB : k + p.cn ≤ 1099511627776) : ∃ m, Goods gd3 k p.toList m ∧ Rn 14 [p, .int k] [.int (k + p.cn), .list m] := by
  obtain ⟨l, rfl, hl, he⟩ := wf_slice (e := 3) (by kernel_rfl) h
  have hm : maxLen = 9223372036854775807 := rfl
  simp only [cn_list] at hB
  have key := mark_loop (body := fun n => L14_0 (ev Try.prog sg n) n) (pay := fun i k m => [.int i, .int k, .list m]) (res := fun k m => [.list m, .int k]) (good := gd3) (B := 1099511627776) (l := l) (fun d r x k hxm hlen h1 h2 => ?_) (fun k m hlen => Evt.all fun n => ?_) k hk hB
  · obtain ⟨m, hg, hloop⟩ := key
    refine ⟨m, hg, Is.of e14 (hloop.mp fun n h => ?_)⟩
    simp at h
    simp [F14, h]
  · have hx := he x hxm
    obtain ⟨x0, rfl, xr⟩ := wf_int (k := .i64) (by kernel_rfl) hx
    have xr := wf64 xr
    simp at hlen h2
    refine ⟨_, rfl, Evt.all fun n => ?_⟩
    simp (disch := omega) [L14_0, ltT, geT, wrap64, nth_mid, set_mid]
    try omega
  · simp (disch := omega) [L14_0, ltF, hlen]
def sn24 (p : PV) : Nat := (nth p.toAgg 0).cn
def gs24 (k : Int) (p q : PV) : Prop := ∃ (y0 : List PV), q = .agg [.list y0, (nth p.toAgg 1), (nth p.toAgg 2), (nth p.toAgg 3)] ∧ Goods gd3 (k) (nth p.toAgg 0).toList y0
theorem sn24_le {p : PV} (h : WfT Try.prog 24 p) : sn24 p ≤ 64 * p.wt := by
  obtain ⟨x0, x1, x2, x3, rfl, xh0, xh1, xh2, xh3⟩ := wf24 h
  have c0 := cn_22 xh0
  simp [sn24]
  omega
theorem mark_13 {p : PV} (h : WfT Try.prog 24 p) {k : Int} (hk : 0 ≤ k) (hB : k + sn24 p ≤ 1099511627776) : ∃ q, gs24 k p q ∧ Rn 13 [p, .int k] [.int (k + sn24 p), q] := by
  obtain ⟨x0, x1, x2, x3, rfl, xh0, xh1, xh2, xh3⟩ := wf24 h
  simp [sn24] at hB
  obtain ⟨y0, g0, c0⟩ := mark_14 xh0 (k := k) (by omega) (by omega)
  refine ⟨_, ⟨y0, rfl, by simpa using g0⟩, Is.of e13 ((c0).mp fun n h => ?_)⟩
  simp [F13, h, sn24]
  try omega
theorem mark_4109 {p : PV} (h : WfT Try.prog 24 p) {k : Int} (hk : 0 ≤ k) (hB : k + sn24 p ≤ 1099511627776) : ∃ q, gs24 k p q ∧ Rn 4109 [p, .int k] [.int (k + sn24 p)] := by
  obtain ⟨x0, x1, x2, x3, rfl, xh0, xh1, xh2, xh3⟩ := wf24 h
  simp [sn24] at hB
  obtain ⟨y0, g0, c0⟩ := mark_14 xh0 (k := k) (by omega) (by omega)
  refine ⟨_, ⟨y0, rfl, by simpa using g0⟩, Is.of e4109 ((c0).mp fun n h => ?_)⟩
  simp [F4109, h, sn24]
  try omega
theorem mark_4110 {p : PV} (h : WfT Try.prog 22 p) {k : Int} (hk : 0 ≤ k) (hB : k + p.cn ≤ 1099511627776) : ∃ m, Goods gd3 k p.toList m ∧ Rn 4110 [p, .int k] [.int (k + p.cn)] := by
  obtain ⟨l, rfl, hl, he⟩ := wf_slice (e := 3) (by kernel_rfl) h
  have hm : maxLen = 9223372036854775807 := rfl
  simp only [cn_list] at hB
  have key := mark_loop (body := fun n => L4110_0 (ev Try.prog sg n) n) (pay := fun i k m => [.int i, .list m, .int k]) (res := fun k m => [.int k]) (good := gd3) (B := 1099511627776) (l := l) (fun d r x k hxm hlen h1 h2 => ?_) (fun k m hlen => Evt.all fun n => ?_) k hk hB
  · obtain ⟨m, hg, hloop⟩ := key
    refine ⟨m, hg, Is.of e4110 (hloop.mp fun n h => ?_)⟩
    simp at h
    simp [F4110, h]
  · have hx := he x hxm
    obtain ⟨x0, rfl, xr⟩ := wf_int (k := .i64) (by kernel_rfl) hx
    have xr := wf64 xr
    simp at hlen h2
    refine ⟨_, rfl, Evt.all fun n => ?_⟩
    simp (disch := omega) [L4110_0, ltT, geT, wrap64, nth_mid, set_mid]
    try omega
  · simp (disch := omega) [L4110_0, ltF, hlen]
theorem held_16 {p : PV} (h : WfT Try.prog 22 p) {m : List PV} {k : Int} (hk : 0 ≤ k) (hB : k + p.cn ≤ 1099511627776) (hg : Goods gd3 k p.toList m) : Rn 16 [.list m, .int k] [.int (k + p.cn)] := by
  obtain ⟨l, rfl, hl, he⟩ := wf_slice (e := 3) (by kernel_rfl) h
  have hm : maxLen = 9223372036854775807 := rfl
  simp only [cn_list] at hB
  have hlen := hg.len
  simp only [toList_list] at hlen
  have hloop := held_loop (body := fun n => L16_0 (ev Try.prog sg n) n) (pay := fun i k => [.int i, .list m, .int k]) (good := fun k x y => x ∈ l ∧ gd3 k x y) (B := 1099511627776) (l := l) (m := m) hlen (fun i k x hi hgx h1 h2 => ?_) (fun k => Evt.all fun n => ?_) k hk hB (Goods.mem hg)
  · refine Is.of e16 (hloop.mp fun n h => ?_)
    simp at h
    simp [F16, h]
  · obtain ⟨hxm, hgx⟩ := hgx
    have hx := he x hxm
    obtain ⟨x0, rfl, xr⟩ := wf_int (k := .i64) (by kernel_rfl) hx
    have xr := wf64 xr
    simp at h2
    have hgx : nth m i = _ := hgx
    try simp at hgx
    refine Evt.all fun n => ?_
    simp (disch := omega) [L16_0, ltT, geT, wrap64, neF, hgx]
    try omega
  · simp (disch := omega) [L16_0, ltF]
end Go.Proofs.Ythmhgnnaihkjaaa.GFnExactReach
