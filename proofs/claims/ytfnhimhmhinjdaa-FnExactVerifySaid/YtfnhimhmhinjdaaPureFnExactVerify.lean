/- What functions of the program and of the reference come to, for the law FnExactVerify. Each under the conditions that it names. -/
import Derived.Test.YtfnhimhmhinjdaaJFnExactVerify
namespace Go.Proofs.Ytfnhimhmhinjdaa.GFnExactVerify
open Go Go.Rsc Go.Proofs.Ytfnhimhmhinjdaa
set_option maxRecDepth 100000
set_option linter.unusedVariables false
set_option linter.unusedSimpArgs false
theorem funOk {q : PV} (h : WfT Try.prog 65 q) (hw : q.wt ≤ 1048576) : FunOk q := by
  obtain ⟨x0, x1, rfl, _, h1⟩ := wf65 h
  obtain ⟨l, rfl, _, he⟩ := wf_slice (e := 155) (by kernel_rfl) h1
  simp at hw
  refine ⟨x0, l, rfl, by omega, fun o ho => ?_⟩
  obtain ⟨a, b, c, rfl, _⟩ := wf155 (he o ho)
  exact ⟨a, b, c, rfl⟩
theorem verify {l : List PV} (hl : l.length ≤ 1048576) (hf : ∀ q, q ∈ l → FunOk q) : ∃ b : Bool, Rn 23 [.list l] [.bool b] ∧ Rn 22 [.list l] [.bool b] := by
  obtain ⟨o, ho⟩ := Classical.axiomOfChoice fun i : Nat => depths hl hf (i : Int)
  obtain ⟨c, hc⟩ := Classical.axiomOfChoice ho
  have h1 := all_loop (body := fun n => L23_0 (ev Try.prog sg n) n) (pay := fun i => [.int i, .int l.length, .list l]) (c := c) (e1 := .x 0) (r1 := [.list l]) (e2 := .r) (r2 := [.bool false]) l.length (by simp) (by simp) (fun i hi hcc => ?_) (fun i hi hcc => ?_) (Evt.all fun n => ?_)
  have h2 := all_loop (body := fun n => L22_0 (ev Try.prog sg n) n) (pay := fun i => [.int i, .list l]) (c := c) (e1 := .x 0) (r1 := [.list l]) (e2 := .r) (r2 := [.bool false]) l.length (by simp) (by simp) (fun i hi hcc => ?_) (fun i hi hcc => ?_) (Evt.all fun n => ?_)
  · cases hall : (List.range l.length).all c with
    | false =>
      simp only [hall, Bool.false_eq_true, if_false, show ((0 : Nat) : Int) = 0 from rfl] at h1 h2
      exact ⟨false, Is.of e23 (h1.mp fun n q => by simp [F23, q]), Is.of e22 (h2.mp fun n q => by simp [F22, q])⟩
    | true =>
      simp only [hall, if_true, show ((0 : Nat) : Int) = 0 from rfl] at h1 h2
      have h41 := fun41 hl hf
      have he : gtI (l.length : Int) 0 = funsOk l := by
        by_cases hz : l.length = 0
        · have e1 : funsOk l = false := by simp [funsOk, okR, hz]
          rw [e1, gtF (by omega)]
        · have h0 := List.all_eq_true.1 hall 0 (by simp; omega)
          have e1 := (hc 0).2.2.1 h0
          rw [e1, gtT (by omega)]
      exact ⟨funsOk l, Is.of e23 (h1.mp fun n q => by simp [F23, q, he]), Is.of e22 (h2.mp2 h41 fun n q q2 => by simp [F22, q, q2])⟩
  · have h3 := (hc i).2.2.2.2
    rw [hcc] at h3
    refine h3.mp fun n q => ?_
    simp (disch := omega) [L22_0, ltT, q, wrap64]
  · have h3 := (hc i).2.2.2.2
    rw [hcc] at h3
    refine h3.mp fun n q => ?_
    simp (disch := omega) [L22_0, ltT, q]
  · simp (disch := omega) [L22_0, ltF]
  · have h3 := (hc i).2.2.2.1
    rw [hcc] at h3
    refine h3.mp fun n q => ?_
    simp (disch := omega) [L23_0, ltT, q, wrap64]
  · have h3 := (hc i).2.2.2.1
    rw [hcc] at h3
    refine h3.mp fun n q => ?_
    simp (disch := omega) [L23_0, ltT, q]
  · simp (disch := omega) [L23_0, ltF]
theorem law {p : PV} (h : WfT Try.prog 22 p) : Rn 5 [p] [.bool true] := by
  have hsz := sz_9 h (x := 1048576) (by omega) (by omega)
  by_cases hneg : szR 1048576 p.wt < 0
  · refine Is.of e5 (hsz.mp fun n h1 => ?_)
    simp [F5, h1, ltT hneg]
  have hw : p.wt ≤ 1048576 := by have := mt (szR_neg (x := 1048576) (w := p.wt) (by omega)).2 hneg; omega
  have hto := to_11 h hw
  have heqa := eq_14 h
  obtain ⟨l, rfl, hl, he⟩ := wf_slice (e := 65) (by kernel_rfl) h
  have hf : ∀ q, q ∈ l → FunOk q := fun q hq => funOk (he q hq) (by have := wt_mem hq; simp at hw; omega)
  simp only [wt_list] at hw
  obtain ⟨b, hi, hs⟩ := verify (by omega) hf
  refine Is.of e5 ((Evt.and (hsz.and (hto.and heqa)) (hi.and hs)).mp fun n h1 => ?_)
  obtain ⟨⟨h1, h2, h3⟩, h5, h6⟩ := h1
  have hge : 0 ≤ szR 1048576 (l.length + PV.wts l) := by simpa only [wt_list] using Int.not_lt.1 hneg
  simp only [wt_list] at h1
  simp (disch := omega) [F5, h1, h2, h3, h5, h6, ltF, neF]
theorem pure_law (ps : List PV) (hl : ps.length = 1) (hwf : ∀ (j : Nat) t p, [22][j]? = some t → ps[j]? = some p → WfT Try.prog t p) : ∃ n, ev Try.prog sg n 5 ps = some [.bool true] := by
  obtain ⟨p, rfl⟩ := List.length_eq_one_iff.1 hl
  exact (law (hwf 0 22 p rfl rfl)).get
end Go.Proofs.Ytfnhimhmhinjdaa.GFnExactVerify
