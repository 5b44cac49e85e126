/- The law FnExactFunsBytes, without Go and memory. No conditions. -/
import Derived.Test.YtfnhimhmhinjdaaBFnExactFunsBytes
namespace Go.Proofs.Ytfnhimhmhinjdaa.GFnExactFunsBytes
open Go Go.Rsc Go.Proofs.Ytfnhimhmhinjdaa
set_option maxRecDepth 100000
set_option linter.unusedVariables false
set_option linter.unusedSimpArgs false
theorem funOk {q : PV} (h : WfT Try.prog 65 q) (hw : q.wt ≤ 1048576) : FunOk q := by
  obtain ⟨x0, x1, rfl, _, h1⟩ := wf65 h
  obtain ⟨l, rfl, _, he⟩ := wf_slice (e := 155) (by kernel_rfl) h1
  simp at hw
  refine ⟨x0, l, rfl, by omega, fun o ho => ?_⟩
  obtain ⟨a, b, c, rfl, _⟩ := wf155 (he o ho)
  exact ⟨a, b, c, rfl⟩
theorem putI_byte : ∀ (x : Nat) (q : PV), q ∈ putI x → ∃ n : Int, q = .int n ∧ 0 ≤ n ∧ n < 256 := by
  intro x
  induction x using Nat.strongRecOn with
  | _ x ih =>
    intro q hq
    rw [putI] at hq
    split at hq
    · rcases List.mem_cons.1 hq with rfl | h
      · exact ⟨_, rfl, by omega, by omega⟩
      · exact ih _ (by omega) q h
    · cases hq
theorem putR_byte {x : Int} {q : PV} (h : q ∈ putR x) : ∃ n : Int, q = .int n ∧ 0 ≤ n ∧ n < 256 := by
  unfold putR at h
  split at h
  · rcases List.mem_append.1 h with h | h
    · exact putI_byte _ q h
    · have := putL_lt x.toNat
      simp only [List.mem_singleton] at h
      exact ⟨_, h, by omega, by omega⟩
  · cases h
theorem bytes_wf {l : List PV} (hf : ∀ q, q ∈ l → FunOk q) (hl : l.length + PV.wts l ≤ 1048576) : WfT Try.prog 24 (.list (bytesOf l)) ∧ (PV.list (bytesOf l)).wt ≤ 26214405 := by
  have hlen : (bytesOf l).length ≤ 26214405 := by
    have h1 := part_len hf hl l.length
    rw [List.take_length] at h1
    have h2 := putR_len l.length
    unfold bytesOf
    split
    · rw [List.length_append]; omega
    · simp
  have hb : ∀ q, q ∈ bytesOf l → ∃ n : Int, q = .int n ∧ 0 ≤ n ∧ n < 256 := by
    intro q hq
    unfold bytesOf at hq
    split at hq
    · rcases List.mem_append.1 hq with h | h
      · exact putR_byte h
      · obtain ⟨f, _, h⟩ := List.mem_flatMap.1 h
        simp only [funBy, List.mem_append] at h
        rcases h with h | h | h
        · exact putR_byte h
        · exact putR_byte h
        · obtain ⟨o, _, h⟩ := List.mem_flatMap.1 h
          simp only [opBy, List.mem_append] at h
          rcases h with h | h | h <;> exact putR_byte h
    · cases hq
  have hm : maxLen = 9223372036854775807 := rfl
  refine ⟨.slice (e := 5) (by kernel_rfl) (by omega) fun q hq => ?_, ?_⟩
  · obtain ⟨n, rfl, h1, h2⟩ := hb q hq
    exact .int (k := .u8) (by kernel_rfl) (wf_mk8 h1 h2)
  · have hz : PV.wts (bytesOf l) = 0 := wts_zero fun q hq => by
      obtain ⟨n, rfl, _⟩ := hb q hq
      simp
    simp only [wt_list, hz]; omega
theorem law {p : PV} (h : WfT Try.prog 22 p) : Rn 3 [p] [.bool true] := by
  have hsz := sz_9 h (x := 1048576) (by omega) (by omega)
  by_cases hneg : szR 1048576 p.wt < 0
  · refine Is.of e3 (hsz.mp fun n h1 => ?_)
    simp [F3, h1, ltT hneg]
  have hw : p.wt ≤ 1048576 := by have := mt (szR_neg (x := 1048576) (w := p.wt) (by omega)).2 hneg; omega
  have hto := to_11 h hw
  have heqa := eq_14 h
  have hcn := cn_22 h
  obtain ⟨m1, _, hmk⟩ := mark_15 h (k := 1) (by omega) (by omega)
  obtain ⟨l, rfl, hl, he⟩ := wf_slice (e := 65) (by kernel_rfl) h
  have hf : ∀ q, q ∈ l → FunOk q := fun q hq => funOk (he q hq) (by have := wt_mem hq; simp at hw; omega)
  simp only [wt_list] at hw
  have hi := bytes12 hf hw
  have hs := bytes10 hf hw
  obtain ⟨hwf, hwt⟩ := bytes_wf hf hw
  have heqr := eq_13 hwf
  have hcr := cn_24 hwf
  obtain ⟨m2, hg, hmr⟩ := mark_16 hwf (k := 1) (by omega) (by omega)
  have hhr := held_17 hwf (k := 1) (by omega) (by omega) hg
  refine Is.of e3 ((Evt.and (hsz.and (hto.and heqa)) (Evt.and (hmk.and (hi.and hs)) (Evt.and heqr (hmr.and hhr)))).mp fun n h1 => ?_)
  obtain ⟨⟨h1, h2, h3⟩, ⟨h4, h5, h6⟩, h7, h8, h9⟩ := h1
  have hge : 0 ≤ szR 1048576 (l.length + PV.wts l) := by simpa only [wt_list] using Int.not_lt.1 hneg
  simp (disch := omega) [F3, h1, h2, h3, h4, h5, h6, h7, h8, h9, ltF, neF]
theorem pure_law (ps : List PV) (hl : ps.length = 1) (hwf : ∀ (j : Nat) t p, [22][j]? = some t → ps[j]? = some p → WfT Try.prog t p) : ∃ n, ev Try.prog sg n 3 ps = some [.bool true] := by
  obtain ⟨p, rfl⟩ := List.length_eq_one_iff.1 hl
  exact (law (hwf 0 22 p rfl rfl)).get
end Go.Proofs.Ytfnhimhmhinjdaa.GFnExactFunsBytes
