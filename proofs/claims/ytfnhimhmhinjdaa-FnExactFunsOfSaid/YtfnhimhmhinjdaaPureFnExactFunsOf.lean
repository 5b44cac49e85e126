/- What functions of the program and of the reference come to, for the law FnExactFunsOf. Each under the conditions that it names. -/
import Derived.Test.YtfnhimhmhinjdaaEFnExactFunsOf
namespace Go.Proofs.Ytfnhimhmhinjdaa.GFnExactFunsOf
open Go Go.Rsc Go.Proofs.Ytfnhimhmhinjdaa
set_option maxRecDepth 100000
set_option linter.unusedVariables false
set_option linter.unusedSimpArgs false
theorem opR_wf {o : PV} (h : OpR o) : WfT Try.prog 71 o := by
  obtain ⟨c, n, m, rfl, h1, h2, h3⟩ := h
  exact mk71 (by omega) (by omega) (by omega)
theorem funR_wf {q : PV} (h : FunR q) : WfT Try.prog 69 q := by
  obtain ⟨free, ops, rfl, h1, h2, h3⟩ := h
  have hm : maxLen = 9223372036854775807 := rfl
  exact mk69 (by omega) (.slice (e := 71) (by kernel_rfl) (by omega) fun o ho => opR_wf (h3 o ho))
theorem law {p : PV} (h : WfT Try.prog 24 p) : Rn 4 [p] [.bool true] := by
  obtain ⟨l, rfl, hl, he⟩ := wf_slice (e := 5) (by kernel_rfl) h
  by_cases hbig : 1048576 < l.length
  · exact Is.of e4 (Evt.all fun n => by simp (disch := omega) [F4, gtT])
  have hb : Bytes l := fun q hq => by
    obtain ⟨x, rfl, r⟩ := wf_int (k := .u8) (by kernel_rfl) (he q hq)
    have := wf8 r
    exact ⟨x.toNat, by simp; omega, by omega⟩
  have hz : PV.wts l = 0 := wts_zero fun q hq => by
    obtain ⟨x, rfl, _⟩ := hb q hq
    simp
  have hto := to_19 h (by simp [hz]; omega)
  have heqa := eq_13 h
  have hcn := cn_24 h
  simp only [wt_list, hz] at hcn
  obtain ⟨m1, _, hmk⟩ := mark_16 h (k := 1) (by omega) (by omega)
  obtain ⟨out, ok, hf, hlen, hs, hi⟩ := funsOf hb (by omega)
  have hm : maxLen = 9223372036854775807 := rfl
  have hwf : WfT Try.prog 26 (.list out) := .slice (e := 69) (by kernel_rfl) (by omega) fun q hq => funR_wf (hf q hq)
  have heqr := eq_14 hwf
  have hcr := cn_26 hwf
  simp only [wt_list] at hcr
  obtain ⟨m2, hg, hmr⟩ := mark_15 hwf (k := 1) (by omega) (by omega)
  have hhr := held_21 hwf (k := 1) (by omega) (by omega) hg
  refine Is.of e4 ((Evt.and (hto.and heqa) (Evt.and (hmk.and (hi.and hs)) (Evt.and heqr (hmr.and hhr)))).mp fun n h1 => ?_)
  obtain ⟨⟨h2, h3⟩, ⟨h4, h5, h6⟩, h7, h8, h9⟩ := h1
  simp (disch := omega) [F4, gtF, h2, h3, h4, h5, h6, h7, h8, h9, ltF, neF]
theorem pure_law (ps : List PV) (hl : ps.length = 1) (hwf : ∀ (j : Nat) t p, [24][j]? = some t → ps[j]? = some p → WfT Try.prog t p) : ∃ n, ev Try.prog sg n 4 ps = some [.bool true] := by
  obtain ⟨p, rfl⟩ := List.length_eq_one_iff.1 hl
  exact (law (hwf 0 24 p rfl rfl)).get
end Go.Proofs.Ytfnhimhmhinjdaa.GFnExactFunsOf
