/- The helpers of the law FnExactFunsOf: sizes, copies, comparisons, marks. Each under the conditions that it names. -/
import Derived.Test.YtfnhimhmhinjdaaGFnExactFunsOf
import Derived.Test.YtfnhimhmhinjdaaRscZp
namespace Go.Proofs.Ytfnhimhmhinjdaa.GFnExactFunsOf
open Go Go.Rsc Go.Proofs.Ytfnhimhmhinjdaa
set_option maxRecDepth 100000
set_option linter.unusedVariables false
set_option linter.unusedSimpArgs false
abbrev Rn (f : FuncId) (a r : List PV) : Prop := Is Try.prog sg f a r
theorem to_19 {p : PV} (h : WfT Try.prog 24 p) (hw : p.wt ≤ 1048576) : Rn 19 [p] [p] := by
  obtain ⟨l, rfl, hl, he⟩ := wf_slice (e := 5) (by kernel_rfl) h
  simp at hw
  refine Is.of e19 ?_
  have hloop := loop_run (body := fun n => L19_0 (ev Try.prog sg n) n) (e := .x 0) (res := [.list l]) (fun i => [.int i, .list l, .list (l.take i ++ List.replicate (l.length - i) (PV.int (0 : Int)))]) l.length (fun i hi => ?_) (Evt.all fun n => ?_) (by simp)
  · refine hloop.mp fun n h => ?_
    simp at h
    simp (disch := omega) [F19, leT, geT, h]
  · refine Evt.all fun n => ?_
    simp (disch := omega) [L19_0, ltT, geT, wrap64, fill_set, hi]
  · simp (disch := omega) [L19_0, ltF]
theorem eq_13 {p : PV} (h : WfT Try.prog 24 p) : Rn 13 [p, p] [.bool true] := by
  obtain ⟨l, rfl, hl, he⟩ := wf_slice (e := 5) (by kernel_rfl) h
  have hm : maxLen = 9223372036854775807 := rfl
  have hloop := loop_run (body := fun n => L13_0 (ev Try.prog sg n) n) (e := .x 0) (res := []) (fun i => [.int i, .list l, .list l]) l.length (fun i hi => ?_) (Evt.all fun n => ?_) (by simp)
  · refine Is.of e13 (hloop.mp fun n h => ?_)
    simp at h
    simp (disch := omega) [F13, neF, h]
  · refine Evt.all fun n => ?_
    simp (disch := omega) [L13_0, ltT, geT, wrap64, neF]
  · simp (disch := omega) [L13_0, ltF]
theorem wf71 {p : PV} (h : WfT Try.prog 71 p) : ∃ x0 x1 x2, p = .agg [PV.int x0, PV.int x1, PV.int x2] ∧ (-9223372036854775808 ≤ x0 ∧ x0 < 9223372036854775808) ∧ (-9223372036854775808 ≤ x1 ∧ x1 < 9223372036854775808) ∧ (-9223372036854775808 ≤ x2 ∧ x2 < 9223372036854775808) := by
  obtain ⟨l, rfl, hl, hf⟩ := wf_struct Try.underlying71 h
  obtain ⟨y0, y1, y2, rfl⟩ : ∃ y0 y1 y2, l = [y0, y1, y2] := by
    match l, hl with
    | [a0, a1, a2], _ => exact ⟨a0, a1, a2, rfl⟩
  have h0 := hf 0 _ _ rfl rfl
  obtain ⟨x0, rfl, r0⟩ := wf_int (k := .i64) (by kernel_rfl) h0
  have h1 := hf 1 _ _ rfl rfl
  obtain ⟨x1, rfl, r1⟩ := wf_int (k := .i64) (by kernel_rfl) h1
  have h2 := hf 2 _ _ rfl rfl
  obtain ⟨x2, rfl, r2⟩ := wf_int (k := .i64) (by kernel_rfl) h2
  exact ⟨x0, x1, x2, rfl, wf64 r0, wf64 r1, wf64 r2⟩
theorem mk71 {x0 : Int} {x1 : Int} {x2 : Int} (h0 : (-9223372036854775808 ≤ x0 ∧ x0 < 9223372036854775808)) (h1 : (-9223372036854775808 ≤ x1 ∧ x1 < 9223372036854775808)) (h2 : (-9223372036854775808 ≤ x2 ∧ x2 < 9223372036854775808)) : WfT Try.prog 71 (.agg [PV.int x0, PV.int x1, PV.int x2]) := by
  refine .struct Try.underlying71 rfl fun i f q hf hq => ?_
  match i, hf, hq with
  | 0, hf, hq => obtain rfl := Option.some.inj hf; obtain rfl := Option.some.inj hq; exact .int (k := .i64) (by kernel_rfl) (wf_mk64 h0.1 h0.2)
  | 1, hf, hq => obtain rfl := Option.some.inj hf; obtain rfl := Option.some.inj hq; exact .int (k := .i64) (by kernel_rfl) (wf_mk64 h1.1 h1.2)
  | 2, hf, hq => obtain rfl := Option.some.inj hf; obtain rfl := Option.some.inj hq; exact .int (k := .i64) (by kernel_rfl) (wf_mk64 h2.1 h2.2)
  | n + 3, hf, hq => simp at hq
theorem eq_108 {p : PV} (h : WfT Try.prog 71 p) : Rn 108 [p, p] [.bool true] := by
  obtain ⟨x0, x1, x2, rfl, xh0, xh1, xh2⟩ := wf71 h
  exact Is.of e108 (Evt.all fun n => by simp [F108, neF])
theorem eq_84 {p : PV} (h : WfT Try.prog 67 p) : Rn 84 [p, p] [.bool true] := by
  obtain ⟨l, rfl, hl, he⟩ := wf_slice (e := 71) (by kernel_rfl) h
  have hm : maxLen = 9223372036854775807 := rfl
  have hloop := loop_run (body := fun n => L84_0 (ev Try.prog sg n) n) (e := .x 0) (res := []) (fun i => [.int i, .list l, .list l]) l.length (fun i hi => ?_) (Evt.all fun n => ?_) (by simp)
  · refine Is.of e84 (hloop.mp fun n h => ?_)
    simp at h
    simp (disch := omega) [F84, neF, h]
  · refine (eq_108 (he _ (nth_mem hi))).mp fun n h => ?_
    simp (disch := omega) [L84_0, ltT, geT, wrap64, h]
  · simp (disch := omega) [L84_0, ltF]
theorem wf69 {p : PV} (h : WfT Try.prog 69 p) : ∃ x0 x1, p = .agg [PV.int x0, x1] ∧ (-9223372036854775808 ≤ x0 ∧ x0 < 9223372036854775808) ∧ WfT Try.prog 67 x1 := by
  obtain ⟨l, rfl, hl, hf⟩ := wf_struct Try.underlying69 h
  obtain ⟨y0, y1, rfl⟩ : ∃ y0 y1, l = [y0, y1] := by
    match l, hl with
    | [a0, a1], _ => exact ⟨a0, a1, rfl⟩
  have h0 := hf 0 _ _ rfl rfl
  obtain ⟨x0, rfl, r0⟩ := wf_int (k := .i64) (by kernel_rfl) h0
  have h1 := hf 1 _ _ rfl rfl
  exact ⟨x0, y1, rfl, wf64 r0, h1⟩
theorem mk69 {x0 : Int} {x1 : PV} (h0 : (-9223372036854775808 ≤ x0 ∧ x0 < 9223372036854775808)) (h1 : WfT Try.prog 67 x1) : WfT Try.prog 69 (.agg [PV.int x0, x1]) := by
  refine .struct Try.underlying69 rfl fun i f q hf hq => ?_
  match i, hf, hq with
  | 0, hf, hq => obtain rfl := Option.some.inj hf; obtain rfl := Option.some.inj hq; exact .int (k := .i64) (by kernel_rfl) (wf_mk64 h0.1 h0.2)
  | 1, hf, hq => obtain rfl := Option.some.inj hf; obtain rfl := Option.some.inj hq; exact h1
  | n + 2, hf, hq => simp at hq
theorem eq_46 {p : PV} (h : WfT Try.prog 69 p) : Rn 46 [p, p] [.bool true] := by
  obtain ⟨x0, x1, rfl, xh0, xh1⟩ := wf69 h
  have c0 := eq_84 xh1
  exact Is.of e46 ((c0).mp fun n h => by simp [F46, neF, h])
theorem eq_14 {p : PV} (h : WfT Try.prog 26 p) : Rn 14 [p, p] [.bool true] := by
  obtain ⟨l, rfl, hl, he⟩ := wf_slice (e := 69) (by kernel_rfl) h
  have hm : maxLen = 9223372036854775807 := rfl
  have hloop := loop_run (body := fun n => L14_0 (ev Try.prog sg n) n) (e := .x 0) (res := []) (fun i => [.int i, .list l, .list l]) l.length (fun i hi => ?_) (Evt.all fun n => ?_) (by simp)
  · refine Is.of e14 (hloop.mp fun n h => ?_)
    simp at h
    simp (disch := omega) [F14, neF, h]
  · refine (eq_46 (he _ (nth_mem hi))).mp fun n h => ?_
    simp (disch := omega) [L14_0, ltT, geT, wrap64, h]
  · simp (disch := omega) [L14_0, ltF]
def gd5 (k : Int) (p q : PV) : Prop := q = .int (IntKind.u8.wrap k)
theorem cn_24 {p : PV} (h : WfT Try.prog 24 p) : p.cn ≤ 64 * p.wt := by
  obtain ⟨l, rfl, hl, he⟩ := wf_slice (e := 5) (by kernel_rfl) h
  have h1 := cns_le (S := 64) (l := l) fun q hq => by
    have hx := he q hq
    obtain ⟨x0, rfl, xr⟩ := wf_int (k := .u8) (by kernel_rfl) hx
    have xr := wf8 xr
    simp only [cn_agg, cns_cons, cns_nil, wt_agg, wts_cons, wts_nil, cn_int, wt_int, cn_bool, wt_bool, cn_str, wt_str]
    omega
  simp only [cn_list, wt_list]
  omega
theorem mark_16 {p : PV} (h : WfT Try.prog 24 p) {k : Int} (hk : 0 ≤ k) (hB : k + p.cn ≤ 1099511627776) : ∃ m, Goods gd5 k p.toList m ∧ Rn 16 [p, .int k] [.int (k + p.cn), .list m] := by
  obtain ⟨l, rfl, hl, he⟩ := wf_slice (e := 5) (by kernel_rfl) h
  have hm : maxLen = 9223372036854775807 := rfl
  simp only [cn_list] at hB
  have key := mark_loop (body := fun n => L16_0 (ev Try.prog sg n) n) (pay := fun i k m => [.int i, .int k, .list m]) (res := fun k m => [.list m, .int k]) (good := gd5) (B := 1099511627776) (l := l) (fun d r x k hx hlen h1 h2 => ?_) (fun k m hlen => Evt.all fun n => ?_) k hk hB
  · obtain ⟨m, hg, hloop⟩ := key
    refine ⟨m, hg, Is.of e16 (hloop.mp fun n h => ?_)⟩
    simp at h
    simp [F16, h]
  · have hx := he x hx
    obtain ⟨x0, rfl, xr⟩ := wf_int (k := .u8) (by kernel_rfl) hx
    have xr := wf8 xr
    simp at hlen h2
    refine ⟨_, rfl, Evt.all fun n => ?_⟩
    simp (disch := omega) [L16_0, ltT, geT, wrap64, nth_mid, set_mid]
    try omega
  · simp (disch := omega) [L16_0, ltF, hlen]
theorem mark_4112 {p : PV} (h : WfT Try.prog 24 p) {k : Int} (hk : 0 ≤ k) (hB : k + p.cn ≤ 1099511627776) : ∃ m, Goods gd5 k p.toList m ∧ Rn 4112 [p, .int k] [.int (k + p.cn)] := by
  obtain ⟨l, rfl, hl, he⟩ := wf_slice (e := 5) (by kernel_rfl) h
  have hm : maxLen = 9223372036854775807 := rfl
  simp only [cn_list] at hB
  have key := mark_loop (body := fun n => L4112_0 (ev Try.prog sg n) n) (pay := fun i k m => [.int i, .list m, .int k]) (res := fun k m => [.int k]) (good := gd5) (B := 1099511627776) (l := l) (fun d r x k hx hlen h1 h2 => ?_) (fun k m hlen => Evt.all fun n => ?_) k hk hB
  · obtain ⟨m, hg, hloop⟩ := key
    refine ⟨m, hg, Is.of e4112 (hloop.mp fun n h => ?_)⟩
    simp at h
    simp [F4112, h]
  · have hx := he x hx
    obtain ⟨x0, rfl, xr⟩ := wf_int (k := .u8) (by kernel_rfl) hx
    have xr := wf8 xr
    simp at hlen h2
    refine ⟨_, rfl, Evt.all fun n => ?_⟩
    simp (disch := omega) [L4112_0, ltT, geT, wrap64, nth_mid, set_mid]
    try omega
  · simp (disch := omega) [L4112_0, ltF, hlen]
def gd71 (k : Int) (p q : PV) : Prop := q = .agg [PV.int (k), PV.int (k + (nth p.toAgg 0).cn), PV.int (k + (nth p.toAgg 0).cn + (nth p.toAgg 1).cn)]
theorem cn_67 {p : PV} (h : WfT Try.prog 67 p) : p.cn ≤ 64 * p.wt := by
  obtain ⟨l, rfl, hl, he⟩ := wf_slice (e := 71) (by kernel_rfl) h
  have h1 := cns_le (S := 64) (l := l) fun q hq => by
    have hx := he q hq
    obtain ⟨x0, x1, x2, rfl, xh0, xh1, xh2⟩ := wf71 hx
    simp only [cn_agg, cns_cons, cns_nil, wt_agg, wts_cons, wts_nil, cn_int, wt_int, cn_bool, wt_bool, cn_str, wt_str]
    omega
  simp only [cn_list, wt_list]
  omega
theorem mark_47 {p : PV} (h : WfT Try.prog 67 p) {k : Int} (hk : 0 ≤ k) (hB : k + p.cn ≤ 1099511627776) : ∃ m, Goods gd71 k p.toList m ∧ Rn 47 [p, .int k] [.int (k + p.cn), .list m] := by
  obtain ⟨l, rfl, hl, he⟩ := wf_slice (e := 71) (by kernel_rfl) h
  have hm : maxLen = 9223372036854775807 := rfl
  simp only [cn_list] at hB
  have key := mark_loop (body := fun n => L47_0 (ev Try.prog sg n) n) (pay := fun i k m => [.int i, .int k, .list m]) (res := fun k m => [.list m, .int k]) (good := gd71) (B := 1099511627776) (l := l) (fun d r x k hx hlen h1 h2 => ?_) (fun k m hlen => Evt.all fun n => ?_) k hk hB
  · obtain ⟨m, hg, hloop⟩ := key
    refine ⟨m, hg, Is.of e47 (hloop.mp fun n h => ?_)⟩
    simp at h
    simp [F47, h]
  · have hx := he x hx
    obtain ⟨x0, x1, x2, rfl, xh0, xh1, xh2⟩ := wf71 hx
    simp at hlen h2
    refine ⟨_, rfl, Evt.all fun n => ?_⟩
    simp (disch := omega) [L47_0, ltT, geT, wrap64, nth_mid, set_mid]
    try omega
  · simp (disch := omega) [L47_0, ltF, hlen]
def gd69 (k : Int) (p q : PV) : Prop := ∃ y1, q = .agg [PV.int (k), PV.list y1] ∧ Goods gd71 (k + (nth p.toAgg 0).cn) (nth p.toAgg 1).toList y1
theorem cn_26 {p : PV} (h : WfT Try.prog 26 p) : p.cn ≤ 64 * p.wt := by
  obtain ⟨l, rfl, hl, he⟩ := wf_slice (e := 69) (by kernel_rfl) h
  have h1 := cns_le (S := 64) (l := l) fun q hq => by
    have hx := he q hq
    obtain ⟨x0, x1, rfl, xh0, xh1⟩ := wf69 hx
    have c1 := cn_67 xh1
    simp only [cn_agg, cns_cons, cns_nil, wt_agg, wts_cons, wts_nil, cn_int, wt_int, cn_bool, wt_bool, cn_str, wt_str]
    omega
  simp only [cn_list, wt_list]
  omega
theorem mark_15 {p : PV} (h : WfT Try.prog 26 p) {k : Int} (hk : 0 ≤ k) (hB : k + p.cn ≤ 1099511627776) : ∃ m, Goods gd69 k p.toList m ∧ Rn 15 [p, .int k] [.int (k + p.cn), .list m] := by
  obtain ⟨l, rfl, hl, he⟩ := wf_slice (e := 69) (by kernel_rfl) h
  have hm : maxLen = 9223372036854775807 := rfl
  simp only [cn_list] at hB
  have key := mark_loop (body := fun n => L15_0 (ev Try.prog sg n) n) (pay := fun i k m => [.int i, .int k, .list m]) (res := fun k m => [.list m, .int k]) (good := gd69) (B := 1099511627776) (l := l) (fun d r x k hx hlen h1 h2 => ?_) (fun k m hlen => Evt.all fun n => ?_) k hk hB
  · obtain ⟨m, hg, hloop⟩ := key
    refine ⟨m, hg, Is.of e15 (hloop.mp fun n h => ?_)⟩
    simp at h
    simp [F15, h]
  · have hx := he x hx
    obtain ⟨x0, x1, rfl, xh0, xh1⟩ := wf69 hx
    simp at hlen h2
    obtain ⟨l1, rfl, hl1, he1⟩ := wf_slice (e := 71) (by kernel_rfl) xh1
    simp at h2
    obtain ⟨y1, g1, c0⟩ := mark_47 xh1 (k := k + 1) (by omega) (by simp; omega)
    refine ⟨_, ⟨y1, rfl, by simpa using g1⟩, (c0).mp fun n h => ?_⟩
    simp at h
    simp (disch := omega) [L15_0, ltT, geT, wrap64, nth_mid, set_mid, h]
    try omega
  · simp (disch := omega) [L15_0, ltF, hlen]
theorem mark_4111 {p : PV} (h : WfT Try.prog 26 p) {k : Int} (hk : 0 ≤ k) (hB : k + p.cn ≤ 1099511627776) : ∃ m, Goods gd69 k p.toList m ∧ Rn 4111 [p, .int k] [.int (k + p.cn)] := by
  obtain ⟨l, rfl, hl, he⟩ := wf_slice (e := 69) (by kernel_rfl) h
  have hm : maxLen = 9223372036854775807 := rfl
  simp only [cn_list] at hB
  have key := mark_loop (body := fun n => L4111_0 (ev Try.prog sg n) n) (pay := fun i k m => [.int i, .list m, .int k]) (res := fun k m => [.int k]) (good := gd69) (B := 1099511627776) (l := l) (fun d r x k hx hlen h1 h2 => ?_) (fun k m hlen => Evt.all fun n => ?_) k hk hB
  · obtain ⟨m, hg, hloop⟩ := key
    refine ⟨m, hg, Is.of e4111 (hloop.mp fun n h => ?_)⟩
    simp at h
    simp [F4111, h]
  · have hx := he x hx
    obtain ⟨x0, x1, rfl, xh0, xh1⟩ := wf69 hx
    simp at hlen h2
    obtain ⟨l1, rfl, hl1, he1⟩ := wf_slice (e := 71) (by kernel_rfl) xh1
    simp at h2
    obtain ⟨y1, g1, c0⟩ := mark_47 xh1 (k := k + 1) (by omega) (by simp; omega)
    refine ⟨_, ⟨y1, rfl, by simpa using g1⟩, (c0).mp fun n h => ?_⟩
    simp at h
    simp (disch := omega) [L4111_0, ltT, geT, wrap64, nth_mid, set_mid, h]
    try omega
  · simp (disch := omega) [L4111_0, ltF, hlen]
theorem mark_4143 {p : PV} (h : WfT Try.prog 67 p) {k : Int} (hk : 0 ≤ k) (hB : k + p.cn ≤ 1099511627776) : ∃ m, Goods gd71 k p.toList m ∧ Rn 4143 [p, .int k] [.int (k + p.cn)] := by
  obtain ⟨l, rfl, hl, he⟩ := wf_slice (e := 71) (by kernel_rfl) h
  have hm : maxLen = 9223372036854775807 := rfl
  simp only [cn_list] at hB
  have key := mark_loop (body := fun n => L4143_0 (ev Try.prog sg n) n) (pay := fun i k m => [.int i, .list m, .int k]) (res := fun k m => [.int k]) (good := gd71) (B := 1099511627776) (l := l) (fun d r x k hx hlen h1 h2 => ?_) (fun k m hlen => Evt.all fun n => ?_) k hk hB
  · obtain ⟨m, hg, hloop⟩ := key
    refine ⟨m, hg, Is.of e4143 (hloop.mp fun n h => ?_)⟩
    simp at h
    simp [F4143, h]
  · have hx := he x hx
    obtain ⟨x0, x1, x2, rfl, xh0, xh1, xh2⟩ := wf71 hx
    simp at hlen h2
    refine ⟨_, rfl, Evt.all fun n => ?_⟩
    simp (disch := omega) [L4143_0, ltT, geT, wrap64, nth_mid, set_mid]
    try omega
  · simp (disch := omega) [L4143_0, ltF, hlen]
theorem held_50 {p : PV} (h : WfT Try.prog 67 p) {m : List PV} {k : Int} (hk : 0 ≤ k) (hB : k + p.cn ≤ 1099511627776) (hg : Goods gd71 k p.toList m) : Rn 50 [.list m, .int k] [.int (k + p.cn)] := by
  obtain ⟨l, rfl, hl, he⟩ := wf_slice (e := 71) (by kernel_rfl) h
  have hm : maxLen = 9223372036854775807 := rfl
  simp only [cn_list] at hB
  have hlen := hg.len
  simp only [toList_list] at hlen
  have hloop := held_loop (body := fun n => L50_0 (ev Try.prog sg n) n) (pay := fun i k => [.int i, .list m, .int k]) (good := fun k x y => x ∈ l ∧ gd71 k x y) (B := 1099511627776) (l := l) (m := m) hlen (fun i k x hi hgx h1 h2 => ?_) (fun k => Evt.all fun n => ?_) k hk hB (Goods.mem hg)
  · refine Is.of e50 (hloop.mp fun n h => ?_)
    simp at h
    simp [F50, h]
  · obtain ⟨hxl, hgx⟩ := hgx
    have hx := he x hxl
    obtain ⟨x0, x1, x2, rfl, xh0, xh1, xh2⟩ := wf71 hx
    simp at h2
    have hgx : nth m i = _ := hgx
    refine Evt.all fun n => ?_
    simp (disch := omega) [L50_0, ltT, geT, wrap64, neF, hgx]
    try omega
  · simp (disch := omega) [L50_0, ltF]
theorem held_21 {p : PV} (h : WfT Try.prog 26 p) {m : List PV} {k : Int} (hk : 0 ≤ k) (hB : k + p.cn ≤ 1099511627776) (hg : Goods gd69 k p.toList m) : Rn 21 [.list m, .int k] [.int (k + p.cn)] := by
  obtain ⟨l, rfl, hl, he⟩ := wf_slice (e := 69) (by kernel_rfl) h
  have hm : maxLen = 9223372036854775807 := rfl
  simp only [cn_list] at hB
  have hlen := hg.len
  simp only [toList_list] at hlen
  have hloop := held_loop (body := fun n => L21_0 (ev Try.prog sg n) n) (pay := fun i k => [.int i, .list m, .int k]) (good := fun k x y => x ∈ l ∧ gd69 k x y) (B := 1099511627776) (l := l) (m := m) hlen (fun i k x hi hgx h1 h2 => ?_) (fun k => Evt.all fun n => ?_) k hk hB (Goods.mem hg)
  · refine Is.of e21 (hloop.mp fun n h => ?_)
    simp at h
    simp [F21, h]
  · obtain ⟨hxl, hgx⟩ := hgx
    have hx := he x hxl
    obtain ⟨x0, x1, rfl, xh0, xh1⟩ := wf69 hx
    simp at h2
    obtain ⟨y1, hgx, g1⟩ := hgx
    obtain ⟨l1, rfl, hl1, he1⟩ := wf_slice (e := 71) (by kernel_rfl) xh1
    simp at h2
    have c0 := held_50 xh1 (k := k + 1) (by omega) (by simp; omega) (by simpa using g1)
    refine (c0).mp fun n h => ?_
    simp at h hgx
    simp (disch := omega) [L21_0, ltT, ltF, geT, wrap64, neF, hgx, h]
    try omega
  · simp (disch := omega) [L21_0, ltF]
end Go.Proofs.Ytfnhimhmhinjdaa.GFnExactFunsOf
