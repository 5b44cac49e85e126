/- What functions of the program and of the reference come to, for the law FnExactGen. Each under the conditions that it names. -/
import Derived.Test.YtijgokehlicmnaaHFnExactGen
namespace Go.Proofs.Ytijgokehlicmnaa.GFnExactGen
open Go Go.Rsc Go.Proofs.Ytijgokehlicmnaa
set_option maxRecDepth 100000
set_option linter.unusedVariables false
set_option linter.unusedSimpArgs false
theorem irSh : IrSh (WfT Try.prog 149) := fun x hx => by
  obtain ⟨x0, x1, x2, rfl, _, _, h2⟩ := wf149 hx
  obtain ⟨l, rfl, _, he⟩ := wf_slice (e := 149) (by kernel_rfl) h2
  exact ⟨x0, x1, l, rfl, he⟩
theorem law {p : PV} (h : WfT Try.prog 86 p) : Rn 9 [p] [.bool true] := by
  have hsz := sz_62 h (x := 1048576) (by omega) (by omega)
  by_cases hneg : szR 1048576 p.wt < 0
  · refine Is.of e9 (hsz.mp fun n h1 => ?_)
    simp [F9, h1, ltT hneg]
  have hw : p.wt ≤ 1048576 := by have := mt (szR_neg (x := 1048576) (w := p.wt) (by omega)).2 hneg; omega
  have hto := to_64 h hw
  have heqa := eq_67 h
  have hcn := cn_86 h
  obtain ⟨m1, _, hmk⟩ := mark_68 h (k := 1) (by omega) (by omega)
  obtain ⟨l, rfl, hl, he⟩ := wf_slice (e := 151) (by kernel_rfl) h
  simp only [wt_list] at hw
  have hb : ∀ q, q ∈ l → BlkSh (WfT Try.prog 149) q := fun q hq => by
    have hqw := wt_mem hq
    obtain ⟨x0, x1, rfl, _, h1⟩ := wf151 (he q hq)
    simp at hqw
    exact ⟨x0, x1, rfl, h1, by omega⟩
  obtain ⟨out, ok, ho, hV, hfr, hi, hs⟩ := gen irSh (by omega) hb
  have hm : maxLen = 9223372036854775807 := rfl
  have hwf : WfT Try.prog 66 (.list out) := .slice (e := 131) (by kernel_rfl) (by omega) fun q hq => by
    obtain ⟨f, ops, rfl, h1, h2⟩ := hV q hq
    obtain ⟨i, hi, e⟩ := hfr _ hq
    obtain ⟨x0, x1, e2, hx, _⟩ := wf151 (he _ (nth_mem hi))
    rw [e2] at e
    simp at e
    subst e
    refine mk131 hx (.slice (e := 196) (by kernel_rfl) (by omega) fun o hm => ?_)
    obtain ⟨c, n, m, rfl, r1, r2, r3⟩ := h2 o hm
    exact mk196 r1 r2 r3
  have hwts : PV.wts out ≤ 20000 * out.length := by
    clear hwf hi hs hfr ho
    induction out with
    | nil => simp
    | cons x out ih =>
      have := ih (fun q hq => hV q (by simp [hq]))
      obtain ⟨f, ops, e, h1, h2⟩ := hV x (by simp)
      have hz : PV.wts ops = 0 := wts_zero fun q hq => by
        obtain ⟨c, n, m, rfl, _⟩ := h2 q hq
        simp
      have hx : x.wt = ops.length := by rw [e]; simp [hz]
      simp only [wts_cons, List.length_cons, hx]; omega
  have heqr := eq_66 hwf
  have hcr := cn_66 hwf
  simp only [wt_list] at hcr
  obtain ⟨m2, hg, hmr⟩ := mark_69 hwf (k := 1) (by omega) (by omega)
  have hhr := held_70 hwf (k := 1) (by omega) (by omega) hg
  refine Is.of e9 ((Evt.and (hsz.and (hto.and heqa)) (Evt.and (hmk.and (hi.and hs)) (Evt.and heqr (hmr.and hhr)))).mp fun n h1 => ?_)
  obtain ⟨⟨h1, h2, h3⟩, ⟨h4, h5, h6⟩, h7, h8, h9⟩ := h1
  have hge : 0 ≤ szR 1048576 (l.length + PV.wts l) := by simpa only [wt_list] using Int.not_lt.1 hneg
  simp only [wt_list] at h1
  simp (disch := omega) [F9, h1, h2, h3, h4, h5, h6, h7, h8, h9, ltF, neF]
theorem pure_law (ps : List PV) (hl : ps.length = 1) (hwf : ∀ (j : Nat) t p, [86][j]? = some t → ps[j]? = some p → WfT Try.prog t p) : ∃ n, ev Try.prog sg n 9 ps = some [.bool true] := by
  obtain ⟨p, rfl⟩ := List.length_eq_one_iff.1 hl
  exact (law (hwf 0 86 p rfl rfl)).get
end Go.Proofs.Ytijgokehlicmnaa.GFnExactGen
