/- What functions of the program and of the reference come to, for the law FnExactVmOk. Each under the conditions that it names. -/
import Derived.Test.YtijgokehlicmnaaHFnExactVmOk
namespace Go.Proofs.Ytijgokehlicmnaa.GFnExactVmOk
open Go Go.Rsc Go.Proofs.Ytijgokehlicmnaa
set_option maxRecDepth 100000
set_option linter.unusedVariables false
set_option linter.unusedSimpArgs false
theorem wordsOf {q : PV} (h : WfT Try.prog 22 q) (hw : q.wt ≤ 1048576) : ∃ W : List Int, q = words W ∧ W.length ≤ 1048576 ∧ ∀ w, w ∈ W → -9223372036854775808 ≤ w ∧ w < 9223372036854775808 := by
  obtain ⟨l, rfl, hl, he⟩ := wf_slice (e := 3) (by kernel_rfl) h
  obtain ⟨W, rfl⟩ := words_of fun q hq => by
    obtain ⟨x, e, _⟩ := wf_int (k := .i64) (by kernel_rfl) (he q hq)
    exact ⟨x, e⟩
  refine ⟨W, rfl, by simp at hw; omega, fun w hm => ?_⟩
  obtain ⟨x, e, hx⟩ := wf_int (k := .i64) (by kernel_rfl) (he (.int w) (List.mem_map.2 ⟨w, hm, rfl⟩))
  cases e
  exact wf64 hx
theorem funOkL {q : PV} (h : WfT Try.prog 176 q) (hw : q.wt ≤ 1048576) : FunOk q := by
  obtain ⟨x0, x1, rfl, _, h1⟩ := wf176 h
  obtain ⟨l, rfl, _, he⟩ := wf_slice (e := 243) (by kernel_rfl) h1
  simp at hw
  refine ⟨x0, l, rfl, by omega, fun o ho => ?_⟩
  obtain ⟨a, b, c, rfl, _⟩ := wf243 (he o ho)
  exact ⟨a, b, c, rfl⟩
theorem vmOf {p : PV} (h : WfT Try.prog 63 p) (hw : p.wt ≤ 1048576) : ∃ fs calls W S O half base next code each, p = vmV fs W half base next S calls O code each ∧ fs.length ≤ 1048576 ∧ (∀ q, q ∈ fs → FunOk q) ∧ W.length ≤ 1048576 ∧ (∀ w, w ∈ W → -9223372036854775808 ≤ w ∧ w < 9223372036854775808) ∧
    S.length ≤ 1048576 ∧ (∀ w, w ∈ S → -9223372036854775808 ≤ w ∧ w < 9223372036854775808) ∧ calls.length ≤ 1048576 ∧ (∀ q, q ∈ calls → CallOk q) ∧ O.length ≤ 1048576 := by
  obtain ⟨x0, x1, x2, x3, x4, code, each, rfl, h0, h1, h2, h3, h4, _⟩ := wf63 h
  obtain ⟨y0, half, base, next, rfl, g0, _⟩ := wf24 h1
  simp at hw
  obtain ⟨fs, rfl, hl, he⟩ := wf_slice (e := 176) (by kernel_rfl) h0
  obtain ⟨calls, rfl, hcl, hce⟩ := wf_slice (e := 198) (by kernel_rfl) h3
  simp at hw
  obtain ⟨W, rfl, hW, hW2⟩ := wordsOf g0 (by omega)
  obtain ⟨S, rfl, hS, hS2⟩ := wordsOf h2 (by omega)
  obtain ⟨O, rfl, hO, _⟩ := wordsOf h4 (by omega)
  refine ⟨fs, calls, W, S, O, half, base, next, code, each, rfl, by omega, fun q hq => funOkL (he q hq) (by have := wt_mem hq; omega), hW, hW2, hS, hS2, by omega, fun q hq => ?_, hO⟩
  obtain ⟨a, b, c, rfl, _⟩ := wf198 (hce q hq)
  exact ⟨a, b, c, rfl⟩
theorem law {p : PV} (h : WfT Try.prog 63 p) : Rn 6 [p] [.bool true] := by
  have hsz := sz_45 h (x := 1048576) (by omega) (by omega)
  by_cases hneg : szR 1048576 p.wt < 0
  · refine Is.of e6 (hsz.mp fun n h1 => ?_)
    simp [F6, h1, ltT hneg]
  have hw : p.wt ≤ 1048576 := by have := mt (szR_neg (x := 1048576) (w := p.wt) (by omega)).2 hneg; omega
  have hto := to_47 h hw
  have heqa := eq_49 h
  obtain ⟨fs, calls, W, S, O, half, base, next, code, each, e, hfs, hf, hW, hW2, hS, _, hC, hc, hO⟩ := vmOf h hw
  have hi := vmI (half := half) (base := base) (next := next) (code := code) (each := each) hfs hf hW hS hC hc hO
  have hs := vmS (half := half) (base := base) (next := next) (code := code) (each := each) hfs hf hW (fun w hw => (hW2 w hw).2) hS hC hc hO
  rw [← e] at hi hs
  refine Is.of e6 ((Evt.and (hsz.and (hto.and heqa)) (hi.and hs)).mp fun n h1 => ?_)
  obtain ⟨⟨h1, h2, h3⟩, h5, h6⟩ := h1
  have hge : 0 ≤ szR 1048576 p.wt := Int.not_lt.1 hneg
  simp (disch := omega) [F6, h1, h2, h3, h5, h6, ltF, neF]
theorem pure_law (ps : List PV) (hl : ps.length = 1) (hwf : ∀ (j : Nat) t p, [63][j]? = some t → ps[j]? = some p → WfT Try.prog t p) : ∃ n, ev Try.prog sg n 6 ps = some [.bool true] := by
  obtain ⟨p, rfl⟩ := List.length_eq_one_iff.1 hl
  exact (law (hwf 0 63 p rfl rfl)).get
end Go.Proofs.Ytijgokehlicmnaa.GFnExactVmOk
