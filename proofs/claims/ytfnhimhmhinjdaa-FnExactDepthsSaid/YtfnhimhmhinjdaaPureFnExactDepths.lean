/- What functions of the program and of the reference come to, for the law FnExactDepths. Each under the conditions that it names. -/
import Derived.Test.YtfnhimhmhinjdaaJFnExactDepths
namespace Go.Proofs.Ytfnhimhmhinjdaa.GFnExactDepths
open Go Go.Rsc Go.Proofs.Ytfnhimhmhinjdaa
set_option maxRecDepth 100000
set_option linter.unusedVariables false
set_option linter.unusedSimpArgs false
theorem funOk {q : PV} (h : WfT Try.prog 65 q) (hw : q.wt ≤ 1048576) : FunOk q := by
  obtain ⟨x0, x1, rfl, _, h1⟩ := wf65 h
  obtain ⟨l, rfl, _, he⟩ := wf_slice (e := 155) (by kernel_rfl) h1
  simp at hw
  refine ⟨x0, l, rfl, by omega, fun o ho => ?_⟩
  obtain ⟨a, b, c, rfl, _⟩ := wf155 (he o ho)
  exact ⟨a, b, c, rfl⟩
theorem law {p q : PV} (h : WfT Try.prog 22 p) (hq : WfT Try.prog 3 q) : Rn 6 [p, q] [.bool true] := by
  obtain ⟨x, rfl, _⟩ := wf_int (k := .i64) (by kernel_rfl) hq
  have hsz := sz_9 h (x := 1048576) (by omega) (by omega)
  by_cases hneg : szR 1048576 p.wt < 0
  · refine Is.of e6 (hsz.mp fun n h1 => ?_)
    simp [F6, h1, ltT hneg]
  have hw : p.wt ≤ 1048576 := by have := mt (szR_neg (x := 1048576) (w := p.wt) (by omega)).2 hneg; omega
  have hto := to_11 h hw
  have heqa := eq_14 h
  have hcn := cn_22 h
  obtain ⟨m1, _, hmk⟩ := mark_15 h (k := 1) (by omega) (by omega)
  obtain ⟨l, rfl, hl, he⟩ := wf_slice (e := 65) (by kernel_rfl) h
  have hf : ∀ q, q ∈ l → FunOk q := fun q hq => funOk (he q hq) (by have := wt_mem hq; simp at hw; omega)
  simp only [wt_list] at hw
  obtain ⟨out, ok, ho, hr, hi, hs⟩ := depths (by omega) hf x
  have hm : maxLen = 9223372036854775807 := rfl
  have hol := map_len out
  have hwf : WfT Try.prog 38 (ints out) := .slice (e := 3) (by kernel_rfl) (by omega) fun q hq => by
    obtain ⟨y, hy, rfl⟩ := List.mem_map.1 hq
    have := hr y hy
    exact .int (k := .i64) (by kernel_rfl) (wf_mk64 (by omega) (by omega))
  have hwt : (ints out).wt ≤ 3000 := by
    have hz : PV.wts (out.map PV.int) = 0 := wts_zero fun q hq => by
      obtain ⟨y, _, rfl⟩ := List.mem_map.1 hq
      simp
    simp only [ints, wt_list, hz]; omega
  have heqr := eq_26 hwf
  have hcr := cn_38 hwf
  obtain ⟨m2, hg, hmr⟩ := mark_27 hwf (k := 1) (by omega) (by omega)
  have hhr := held_28 hwf (k := 1) (by omega) (by omega) hg
  refine Is.of e6 ((Evt.and (hsz.and (hto.and heqa)) (Evt.and (hmk.and (hi.and hs)) (Evt.and heqr (hmr.and hhr)))).mp fun n h1 => ?_)
  obtain ⟨⟨h1, h2, h3⟩, ⟨h4, h5, h6⟩, h7, h8, h9⟩ := h1
  have hge : 0 ≤ szR 1048576 (l.length + PV.wts l) := by simpa only [wt_list] using Int.not_lt.1 hneg
  simp only [wt_list] at h1
  generalize ints out = o at *
  simp (disch := omega) [F6, h1, h2, h3, h4, h5, h6, h7, h8, h9, ltF, neF]
theorem pure_law (ps : List PV) (hl : ps.length = 2) (hwf : ∀ (j : Nat) t p, [22, 3][j]? = some t → ps[j]? = some p → WfT Try.prog t p) : ∃ n, ev Try.prog sg n 6 ps = some [.bool true] := by
  obtain ⟨p, q, rfl⟩ : ∃ p q, ps = [p, q] := by
    match ps, hl with
    | [p, q], _ => exact ⟨p, q, rfl⟩
  exact (law (hwf 0 22 p rfl rfl) (hwf 1 3 q rfl rfl)).get
end Go.Proofs.Ytfnhimhmhinjdaa.GFnExactDepths
