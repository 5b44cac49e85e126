/- The helpers of the law FnExactKin: sizes, copies, comparisons, marks. Each under the conditions that it names. -/
import Derived.Test.YthmhgnnaihkjaaaGFnExactKin
import Derived.Test.YthmhgnnaihkjaaaRscZp
namespace Go.Proofs.Ythmhgnnaihkjaaa.GFnExactKin
open Go Go.Rsc Go.Proofs.Ythmhgnnaihkjaaa
set_option maxRecDepth 100000
set_option linter.unusedVariables false
set_option linter.unusedSimpArgs false
theorem size_mem {l : List PV} {x : PV} (h : x ∈ l) : SizeOf.sizeOf x < SizeOf.sizeOf (PV.list l) := by
  have := List.sizeOf_lt_of_mem h
  simp; omega
@[simp] theorem cmpS_ne (s : ByteArray) : cmpS BinOp.neq s s = false := by simp [cmpS]
abbrev Rn (f : FuncId) (a r : List PV) : Prop := Is Try.prog sg f a r
theorem wf59 {p : PV} (h : WfT Try.prog 59 p) : ∃ x0 x1, p = .agg [PV.int x0, PV.int x1] ∧ (-9223372036854775808 ≤ x0 ∧ x0 < 9223372036854775808) ∧ (-9223372036854775808 ≤ x1 ∧ x1 < 9223372036854775808) := by
  obtain ⟨l, rfl, hl, hf⟩ := wf_struct Try.underlying59 h
  obtain ⟨y0, y1, rfl⟩ : ∃ y0 y1, l = [y0, y1] := by
    match l, hl with
    | [a0, a1], _ => exact ⟨a0, a1, rfl⟩
  have h0 := hf 0 _ _ rfl rfl
  obtain ⟨x0, rfl, r0⟩ := wf_int (k := .i64) (by kernel_rfl) h0
  have h1 := hf 1 _ _ rfl rfl
  obtain ⟨x1, rfl, r1⟩ := wf_int (k := .i64) (by kernel_rfl) h1
  exact ⟨x0, x1, rfl, wf64 r0, wf64 r1⟩
theorem mk59 {x0 : Int} {x1 : Int} (h0 : (-9223372036854775808 ≤ x0 ∧ x0 < 9223372036854775808)) (h1 : (-9223372036854775808 ≤ x1 ∧ x1 < 9223372036854775808)) : WfT Try.prog 59 (.agg [PV.int x0, PV.int x1]) := by
  refine .struct Try.underlying59 rfl fun i f q hf hq => ?_
  match i, hf, hq with
  | 0, hf, hq => obtain rfl := Option.some.inj hf; obtain rfl := Option.some.inj hq; exact .int (k := .i64) (by kernel_rfl) (wf_mk64 h0.1 h0.2)
  | 1, hf, hq => obtain rfl := Option.some.inj hf; obtain rfl := Option.some.inj hq; exact .int (k := .i64) (by kernel_rfl) (wf_mk64 h1.1 h1.2)
  | n + 2, hf, hq => simp at hq
theorem sz_17 {p : PV} (h : WfT Try.prog 36 p) {x : Int} (hx : 0 ≤ x) (hB : x ≤ 1048576) : Rn 17 [p, .int x] [.int (szR x p.wt)] := by
  obtain ⟨l, rfl, hl, he⟩ := wf_slice (e := 59) (by kernel_rfl) h
  have hz : PV.wts l = 0 := wts_zero fun q hq => by
    have hq := he q hq
    obtain ⟨x0, x1, rfl, xh0, xh1⟩ := wf59 hq
    simp
  have hm : maxLen = 9223372036854775807 := rfl
  refine Is.of e17 (Evt.all fun n => ?_)
  by_cases s : x - l.length < 0
  · rw [szR_lt (by simp [hz]; omega)]
    simp (disch := omega) [F17, wrap64, ltT]
  · rw [szR_ge (by simp [hz]; omega)]
    simp (disch := omega) [F17, wrap64, ltF, hz]
theorem to_44 {p : PV} (h : WfT Try.prog 59 p) (hw : p.wt ≤ 1048576) : Rn 44 [p] [p] := by
  obtain ⟨x0, x1, rfl, xh0, xh1⟩ := wf59 h
  simp at hw
  exact Is.of e44 (Evt.all fun n => by simp [F44])
theorem to_19 {p : PV} (h : WfT Try.prog 36 p) (hw : p.wt ≤ 1048576) : Rn 19 [p] [p] := by
  obtain ⟨l, rfl, hl, he⟩ := wf_slice (e := 59) (by kernel_rfl) h
  simp at hw
  refine Is.of e19 ?_
  have hloop := loop_run (body := fun n => L19_0 (ev Try.prog sg n) n) (e := .x 0) (res := [.list l]) (fun i => [.int i, .list l, .list (l.take i ++ List.replicate (l.length - i) (PV.agg [(PV.int (0 : Int)), (PV.int (0 : Int))]))]) l.length (fun i hi => ?_) (Evt.all fun n => ?_) (by simp)
  · refine hloop.mp fun n h => ?_
    simp at h
    simp (disch := omega) [F19, leT, geT, h]
  · have hm := nth_mem hi
    refine (to_44 (he _ hm) (by have := wt_mem hm; omega)).mp fun n h => ?_
    simp (disch := omega) [L19_0, ltT, geT, wrap64, h, fill_set, hi]
  · simp (disch := omega) [L19_0, ltF]
theorem eq_12 {p : PV} (h : WfT Try.prog 22 p) : Rn 12 [p, p] [.bool true] := by
  obtain ⟨l, rfl, hl, he⟩ := wf_slice (e := 3) (by kernel_rfl) h
  have hm : maxLen = 9223372036854775807 := rfl
  have hloop := loop_run (body := fun n => L12_0 (ev Try.prog sg n) n) (e := .x 0) (res := []) (fun i => [.int i, .list l, .list l]) l.length (fun i hi => ?_) (Evt.all fun n => ?_) (by simp)
  · refine Is.of e12 (hloop.mp fun n h => ?_)
    simp at h
    simp (disch := omega) [F12, neF, h]
  · refine Evt.all fun n => ?_
    simp (disch := omega) [L12_0, ltT, geT, wrap64, neF]
  · simp (disch := omega) [L12_0, ltF]
theorem eq_21 {p : PV} (h : WfT Try.prog 38 p) : Rn 21 [p, p] [.bool true] := by
  obtain ⟨l, rfl, hl, he⟩ := wf_slice (e := 22) (by kernel_rfl) h
  have hm : maxLen = 9223372036854775807 := rfl
  have hloop := loop_run (body := fun n => L21_0 (ev Try.prog sg n) n) (e := .x 0) (res := []) (fun i => [.int i, .list l, .list l]) l.length (fun i hi => ?_) (Evt.all fun n => ?_) (by simp)
  · refine Is.of e21 (hloop.mp fun n h => ?_)
    simp at h
    simp (disch := omega) [F21, neF, h]
  · refine (eq_12 (he _ (nth_mem hi))).mp fun n h => ?_
    simp (disch := omega) [L21_0, ltT, geT, wrap64, h]
  · simp (disch := omega) [L21_0, ltF]
theorem eq_51 {p : PV} (h : WfT Try.prog 59 p) : Rn 51 [p, p] [.bool true] := by
  obtain ⟨x0, x1, rfl, xh0, xh1⟩ := wf59 h
  exact Is.of e51 (Evt.all fun n => by simp [F51, neF])
theorem eq_22 {p : PV} (h : WfT Try.prog 36 p) : Rn 22 [p, p] [.bool true] := by
  obtain ⟨l, rfl, hl, he⟩ := wf_slice (e := 59) (by kernel_rfl) h
  have hm : maxLen = 9223372036854775807 := rfl
  have hloop := loop_run (body := fun n => L22_0 (ev Try.prog sg n) n) (e := .x 0) (res := []) (fun i => [.int i, .list l, .list l]) l.length (fun i hi => ?_) (Evt.all fun n => ?_) (by simp)
  · refine Is.of e22 (hloop.mp fun n h => ?_)
    simp at h
    simp (disch := omega) [F22, neF, h]
  · refine (eq_51 (he _ (nth_mem hi))).mp fun n h => ?_
    simp (disch := omega) [L22_0, ltT, geT, wrap64, h]
  · simp (disch := omega) [L22_0, ltF]
def gd3 (k : Int) (p q : PV) : Prop := q = PV.int (k)
theorem cn_22 {p : PV} (h : WfT Try.prog 22 p) : p.cn ≤ 64 * p.wt := by
  obtain ⟨l, rfl, hl, he⟩ := wf_slice (e := 3) (by kernel_rfl) h
  have h1 := cns_le (S := 64) (l := l) fun q hxm => by
    have hx := he q hxm
    obtain ⟨x0, rfl, xr⟩ := wf_int (k := .i64) (by kernel_rfl) hx
    have xr := wf64 xr
    try simp only [cn_agg, cns_cons, cns_nil, wt_agg, wts_cons, wts_nil, cn_int, wt_int, cn_bool, wt_bool, cn_str, wt_str]
    omega
  simp only [cn_list, wt_list]
  omega
theorem mark_14 {p : PV} (h : WfT Try.prog 22 p) {k : Int} (hk : 0 ≤ k) (hB : k + p.cn ≤ 1099511627776) : ∃ m, Goods gd3 k p.toList m ∧ Rn 14 [p, .int k] [.int (k + p.cn), .list m] := by
  obtain ⟨l, rfl, hl, he⟩ := wf_slice (e := 3) (by kernel_rfl) h
  have hm : maxLen = 9223372036854775807 := rfl
  simp only [cn_list] at hB
  have key := mark_loop (body := fun n => L14_0 (ev Try.prog sg n) n) (pay := fun i k m => [.int i, .int k, .list m]) (res := fun k m => [.list m, .int k]) (good := gd3) (B := 1099511627776) (l := l) (fun d r x k hxm hlen h1 h2 => ?_) (fun k m hlen => Evt.all fun n => ?_) k hk hB
  · obtain ⟨m, hg, hloop⟩ := key
    refine ⟨m, hg, Is.of e14 (hloop.mp fun n h => ?_)⟩
    simp at h
    simp [F14, h]
  · have hx := he x hxm
    obtain ⟨x0, rfl, xr⟩ := wf_int (k := .i64) (by kernel_rfl) hx
    have xr := wf64 xr
    simp at hlen h2
    refine ⟨_, rfl, Evt.all fun n => ?_⟩
    simp (disch := omega) [L14_0, ltT, geT, wrap64, nth_mid, set_mid]
    try omega
  · simp (disch := omega) [L14_0, ltF, hlen]
theorem mark_4110 {p : PV} (h : WfT Try.prog 22 p) {k : Int} (hk : 0 ≤ k) (hB : k + p.cn ≤ 1099511627776) : ∃ m, Goods gd3 k p.toList m ∧ Rn 4110 [p, .int k] [.int (k + p.cn)] := by
  obtain ⟨l, rfl, hl, he⟩ := wf_slice (e := 3) (by kernel_rfl) h
  have hm : maxLen = 9223372036854775807 := rfl
  simp only [cn_list] at hB
  have key := mark_loop (body := fun n => L4110_0 (ev Try.prog sg n) n) (pay := fun i k m => [.int i, .list m, .int k]) (res := fun k m => [.int k]) (good := gd3) (B := 1099511627776) (l := l) (fun d r x k hxm hlen h1 h2 => ?_) (fun k m hlen => Evt.all fun n => ?_) k hk hB
  · obtain ⟨m, hg, hloop⟩ := key
    refine ⟨m, hg, Is.of e4110 (hloop.mp fun n h => ?_)⟩
    simp at h
    simp [F4110, h]
  · have hx := he x hxm
    obtain ⟨x0, rfl, xr⟩ := wf_int (k := .i64) (by kernel_rfl) hx
    have xr := wf64 xr
    simp at hlen h2
    refine ⟨_, rfl, Evt.all fun n => ?_⟩
    simp (disch := omega) [L4110_0, ltT, geT, wrap64, nth_mid, set_mid]
    try omega
  · simp (disch := omega) [L4110_0, ltF, hlen]
def gd22 (k : Int) (p q : PV) : Prop := ∃ y0, q = PV.list y0 ∧ Goods gd3 (k) p.toList y0
theorem cn_38 {p : PV} (h : WfT Try.prog 38 p) : p.cn ≤ 64 * p.wt := by
  obtain ⟨l, rfl, hl, he⟩ := wf_slice (e := 22) (by kernel_rfl) h
  have h1 := cns_le (S := 64) (l := l) fun q hxm => by
    have hx := he q hxm
    have xr := hx
    have c0 := cn_22 xr
    try simp only [cn_agg, cns_cons, cns_nil, wt_agg, wts_cons, wts_nil, cn_int, wt_int, cn_bool, wt_bool, cn_str, wt_str]
    omega
  simp only [cn_list, wt_list]
  omega
theorem mark_24 {p : PV} (h : WfT Try.prog 38 p) {k : Int} (hk : 0 ≤ k) (hB : k + p.cn ≤ 1099511627776) : ∃ m, Goods gd22 k p.toList m ∧ Rn 24 [p, .int k] [.int (k + p.cn), .list m] := by
  obtain ⟨l, rfl, hl, he⟩ := wf_slice (e := 22) (by kernel_rfl) h
  have hm : maxLen = 9223372036854775807 := rfl
  simp only [cn_list] at hB
  have key := mark_loop (body := fun n => L24_0 (ev Try.prog sg n) n) (pay := fun i k m => [.int i, .int k, .list m]) (res := fun k m => [.list m, .int k]) (good := gd22) (B := 1099511627776) (l := l) (fun d r x k hxm hlen h1 h2 => ?_) (fun k m hlen => Evt.all fun n => ?_) k hk hB
  · obtain ⟨m, hg, hloop⟩ := key
    refine ⟨m, hg, Is.of e24 (hloop.mp fun n h => ?_)⟩
    simp at h
    simp [F24, h]
  · have hx := he x hxm
    have xr := hx
    obtain ⟨l0, rfl, hl0, he0⟩ := wf_slice (e := 3) (by kernel_rfl) xr
    simp at hlen h2
    obtain ⟨y0, g0, c0⟩ := mark_14 xr (k := k) (by omega) (by simp; omega)
    refine ⟨_, ⟨y0, rfl, by simpa using g0⟩, (c0).mp fun n h => ?_⟩
    simp at h
    simp (disch := omega) [L24_0, ltT, geT, wrap64, nth_mid, set_mid, h]
    try omega
  · simp (disch := omega) [L24_0, ltF, hlen]
theorem mark_4120 {p : PV} (h : WfT Try.prog 38 p) {k : Int} (hk : 0 ≤ k) (hB : k + p.cn ≤ 1099511627776) : ∃ m, Goods gd22 k p.toList m ∧ Rn 4120 [p, .int k] [.int (k + p.cn)] := by
  obtain ⟨l, rfl, hl, he⟩ := wf_slice (e := 22) (by kernel_rfl) h
  have hm : maxLen = 9223372036854775807 := rfl
  simp only [cn_list] at hB
  have key := mark_loop (body := fun n => L4120_0 (ev Try.prog sg n) n) (pay := fun i k m => [.int i, .list m, .int k]) (res := fun k m => [.int k]) (good := gd22) (B := 1099511627776) (l := l) (fun d r x k hxm hlen h1 h2 => ?_) (fun k m hlen => Evt.all fun n => ?_) k hk hB
  · obtain ⟨m, hg, hloop⟩ := key
    refine ⟨m, hg, Is.of e4120 (hloop.mp fun n h => ?_)⟩
    simp at h
    simp [F4120, h]
  · have hx := he x hxm
    have xr := hx
    obtain ⟨l0, rfl, hl0, he0⟩ := wf_slice (e := 3) (by kernel_rfl) xr
    simp at hlen h2
    obtain ⟨y0, g0, c0⟩ := mark_14 xr (k := k) (by omega) (by simp; omega)
    refine ⟨_, ⟨y0, rfl, by simpa using g0⟩, (c0).mp fun n h => ?_⟩
    simp at h
    simp (disch := omega) [L4120_0, ltT, geT, wrap64, nth_mid, set_mid, h]
    try omega
  · simp (disch := omega) [L4120_0, ltF, hlen]
def gd59 (k : Int) (p q : PV) : Prop := q = PV.agg [PV.int (k), PV.int (k + (nth p.toAgg 0).cn)]
theorem cn_36 {p : PV} (h : WfT Try.prog 36 p) : p.cn ≤ 64 * p.wt := by
  obtain ⟨l, rfl, hl, he⟩ := wf_slice (e := 59) (by kernel_rfl) h
  have h1 := cns_le (S := 64) (l := l) fun q hxm => by
    have hx := he q hxm
    obtain ⟨x0, x1, rfl, xh0, xh1⟩ := wf59 hx
    try simp only [cn_agg, cns_cons, cns_nil, wt_agg, wts_cons, wts_nil, cn_int, wt_int, cn_bool, wt_bool, cn_str, wt_str]
    omega
  simp only [cn_list, wt_list]
  omega
theorem mark_23 {p : PV} (h : WfT Try.prog 36 p) {k : Int} (hk : 0 ≤ k) (hB : k + p.cn ≤ 1099511627776) : ∃ m, Goods gd59 k p.toList m ∧ Rn 23 [p, .int k] [.int (k + p.cn), .list m] := by
  obtain ⟨l, rfl, hl, he⟩ := wf_slice (e := 59) (by kernel_rfl) h
  have hm : maxLen = 9223372036854775807 := rfl
  simp only [cn_list] at hB
  have key := mark_loop (body := fun n => L23_0 (ev Try.prog sg n) n) (pay := fun i k m => [.int i, .int k, .list m]) (res := fun k m => [.list m, .int k]) (good := gd59) (B := 1099511627776) (l := l) (fun d r x k hxm hlen h1 h2 => ?_) (fun k m hlen => Evt.all fun n => ?_) k hk hB
  · obtain ⟨m, hg, hloop⟩ := key
    refine ⟨m, hg, Is.of e23 (hloop.mp fun n h => ?_)⟩
    simp at h
    simp [F23, h]
  · have hx := he x hxm
    obtain ⟨x0, x1, rfl, xh0, xh1⟩ := wf59 hx
    simp at hlen h2
    refine ⟨_, rfl, Evt.all fun n => ?_⟩
    simp (disch := omega) [L23_0, ltT, geT, wrap64, nth_mid, set_mid]
    try omega
  · simp (disch := omega) [L23_0, ltF, hlen]
theorem mark_4119 {p : PV} (h : WfT Try.prog 36 p) {k : Int} (hk : 0 ≤ k) (hB : k + p.cn ≤ 1099511627776) : ∃ m, Goods gd59 k p.toList m ∧ Rn 4119 [p, .int k] [.int (k + p.cn)] := by
  obtain ⟨l, rfl, hl, he⟩ := wf_slice (e := 59) (by kernel_rfl) h
  have hm : maxLen = 9223372036854775807 := rfl
  simp only [cn_list] at hB
  have key := mark_loop (body := fun n => L4119_0 (ev Try.prog sg n) n) (pay := fun i k m => [.int i, .list m, .int k]) (res := fun k m => [.int k]) (good := gd59) (B := 1099511627776) (l := l) (fun d r x k hxm hlen h1 h2 => ?_) (fun k m hlen => Evt.all fun n => ?_) k hk hB
  · obtain ⟨m, hg, hloop⟩ := key
    refine ⟨m, hg, Is.of e4119 (hloop.mp fun n h => ?_)⟩
    simp at h
    simp [F4119, h]
  · have hx := he x hxm
    obtain ⟨x0, x1, rfl, xh0, xh1⟩ := wf59 hx
    simp at hlen h2
    refine ⟨_, rfl, Evt.all fun n => ?_⟩
    simp (disch := omega) [L4119_0, ltT, geT, wrap64, nth_mid, set_mid]
    try omega
  · simp (disch := omega) [L4119_0, ltF, hlen]
theorem held_16 {p : PV} (h : WfT Try.prog 22 p) {m : List PV} {k : Int} (hk : 0 ≤ k) (hB : k + p.cn ≤ 1099511627776) (hg : Goods gd3 k p.toList m) : Rn 16 [.list m, .int k] [.int (k + p.cn)] := by
  obtain ⟨l, rfl, hl, he⟩ := wf_slice (e := 3) (by kernel_rfl) h
  have hm : maxLen = 9223372036854775807 := rfl
  simp only [cn_list] at hB
  have hlen := hg.len
  simp only [toList_list] at hlen
  have hloop := held_loop (body := fun n => L16_0 (ev Try.prog sg n) n) (pay := fun i k => [.int i, .list m, .int k]) (good := fun k x y => x ∈ l ∧ gd3 k x y) (B := 1099511627776) (l := l) (m := m) hlen (fun i k x hi hgx h1 h2 => ?_) (fun k => Evt.all fun n => ?_) k hk hB (Goods.mem hg)
  · refine Is.of e16 (hloop.mp fun n h => ?_)
    simp at h
    simp [F16, h]
  · obtain ⟨hxm, hgx⟩ := hgx
    have hx := he x hxm
    obtain ⟨x0, rfl, xr⟩ := wf_int (k := .i64) (by kernel_rfl) hx
    have xr := wf64 xr
    simp at h2
    have hgx : nth m i = _ := hgx
    try simp at hgx
    refine Evt.all fun n => ?_
    simp (disch := omega) [L16_0, ltT, geT, wrap64, neF, hgx]
    try omega
  · simp (disch := omega) [L16_0, ltF]
theorem held_25 {p : PV} (h : WfT Try.prog 38 p) {m : List PV} {k : Int} (hk : 0 ≤ k) (hB : k + p.cn ≤ 1099511627776) (hg : Goods gd22 k p.toList m) : Rn 25 [.list m, .int k] [.int (k + p.cn)] := by
  obtain ⟨l, rfl, hl, he⟩ := wf_slice (e := 22) (by kernel_rfl) h
  have hm : maxLen = 9223372036854775807 := rfl
  simp only [cn_list] at hB
  have hlen := hg.len
  simp only [toList_list] at hlen
  have hloop := held_loop (body := fun n => L25_0 (ev Try.prog sg n) n) (pay := fun i k => [.int i, .list m, .int k]) (good := fun k x y => x ∈ l ∧ gd22 k x y) (B := 1099511627776) (l := l) (m := m) hlen (fun i k x hi hgx h1 h2 => ?_) (fun k => Evt.all fun n => ?_) k hk hB (Goods.mem hg)
  · refine Is.of e25 (hloop.mp fun n h => ?_)
    simp at h
    simp [F25, h]
  · obtain ⟨hxm, hgx⟩ := hgx
    have hx := he x hxm
    have xr := hx
    obtain ⟨l0, rfl, hl0, he0⟩ := wf_slice (e := 3) (by kernel_rfl) xr
    simp at h2
    obtain ⟨y0, hgx, g0⟩ := hgx
    have c0 := held_16 xr (k := k) (by omega) (by simp; omega) (by simpa using g0)
    refine (c0).mp fun n h => ?_
    simp at h hgx
    simp (disch := omega) [L25_0, ltT, ltF, geT, wrap64, neF, hgx, h]
    try omega
  · simp (disch := omega) [L25_0, ltF]
end Go.Proofs.Ythmhgnnaihkjaaa.GFnExactKin
