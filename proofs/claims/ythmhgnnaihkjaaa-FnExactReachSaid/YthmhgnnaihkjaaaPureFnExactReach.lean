/- What functions of the program and of the reference come to, for the law FnExactReach. Each under the conditions that it names. -/
import Derived.Test.YthmhgnnaihkjaaaDFnExactReach
namespace Go.Proofs.Ythmhgnnaihkjaaa.GFnExactReach
open Go Go.Rsc Go.Proofs.Ythmhgnnaihkjaaa
set_option maxRecDepth 100000
set_option linter.unusedVariables false
set_option linter.unusedSimpArgs false
theorem wfInts {W : List Int} (h1 : W.length ≤ 9223372036854775807) (h : ∀ w, w ∈ W → -9223372036854775808 ≤ w ∧ w < 9223372036854775808) : WfT Try.prog 22 (words W) := by
  refine .slice (e := 3) (by kernel_rfl) (by have hm : maxLen = 9223372036854775807 := rfl; rw [hm]; simpa using h1) fun q hq => ?_
  obtain ⟨w, hw, rfl⟩ := List.mem_map.1 hq
  exact .int (k := .i64) (by kernel_rfl) (wf_mk64 (h w hw).1 (h w hw).2)
def i64 (x : Int) : Prop := -9223372036854775808 ≤ x ∧ x < 9223372036854775808
theorem law {p : PV} (h : WfT Try.prog 24 p) {R : List Int} (hq : WfT Try.prog 22 (words R)) (hR2 : ∀ w, w ∈ R → i64 w) : Rn 5 [p, words R] [.bool true] := by
  have hl := wordsLen R
  by_cases hbig : R.length ≤ 1048576
  rotate_left
  · refine Is.of e5 (Evt.all fun n => ?_)
    have c1 : gtI (R.length : Int) 1048576 = true := gtT (by omega)
    simp only [F5, nth_1, toList_list, hl, c1, iff_true']
  have c0 : gtI (R.length : Int) 1048576 = false := gtF (by omega)
  have hsz := sz_6 h (x := 1048576) (by omega) (by omega)
  by_cases hneg : szR 1048576 p.wt < 0
  · refine Is.of e5 (hsz.mp fun n h1 => ?_)
    simp only [F5, nth_0, nth_1, toList_list, hl, c0, iff_false', h1, Option.bind_some, toInt_int, ltT hneg, iff_true']
  have hw : p.wt ≤ 1048576 := by have := mt (szR_neg (x := 1048576) (w := p.wt) (by omega)).2 hneg; omega
  have hqw : (words R).wt = R.length := by simp [wts_zero (l := R.map PV.int) (by intro q hq; obtain ⟨w, _, rfl⟩ := List.mem_map.1 hq; simp)]
  have hto := to_8 h hw
  have htq := to_9 hq (by rw [hqw]; exact hbig)
  have heqa := eq_11 h
  have heqb := eq_12 hq
  have hcn := sn24_le h
  have hcq := cn_22 hq
  rw [hqw] at hcq
  obtain ⟨m1, _, hmk⟩ := mark_13 h (k := 1) (by omega) (by omega)
  obtain ⟨m2, _, hmq⟩ := mark_14 hq (k := 1 + sn24 p) (by omega) (by omega)
  obtain ⟨W, half, base, next, e, hW, hW2, h0⟩ : ∃ W half base next, p = heapV W half base next ∧ W.length ≤ 1048576 ∧ (∀ w, w ∈ W → i64 w) ∧ (i64 half ∧ i64 base ∧ i64 next) := by
    obtain ⟨y0, half, base, next, rfl, g0, g1, g2, g3⟩ := wf24 h
    simp at hw
    obtain ⟨W, rfl, hW, hW2⟩ := wordsOf g0 (by omega)
    exact ⟨W, half, base, next, rfl, hW, hW2, g1, g2, g3⟩
  obtain ⟨hi, hs, hrl, hrb⟩ := reachIS (half := half) (base := base) (next := next) hW hW2 hbig
  rw [← e] at hi hs
  generalize reachB W half base next R = X at *
  have eX : nats X = words (X.map fun p : Nat => (p : Int)) := by simp [List.map_map]
  have hg1 : WfT Try.prog 22 (nats X) := by
    rw [eX]
    refine wfInts (by simp; omega) fun w hw => ?_
    obtain ⟨p, hp, rfl⟩ := List.mem_map.1 hw
    have := hrb p hp
    omega
  have hw1 : (nats X).wt = X.length := by simp [wts_zero (l := X.map fun p : Nat => PV.int (p : Int)) (by intro q hq; obtain ⟨w, _, rfl⟩ := List.mem_map.1 hq; simp)]
  have heqs := eq_12 hg1
  have hcs := cn_22 hg1
  rw [hw1] at hcs
  obtain ⟨m4, hm4, hms⟩ := mark_14 hg1 (k := 1) (by omega) (by omega)
  have hhs := held_16 hg1 (k := 1) (by omega) (by omega) hm4
  have hge : 0 ≤ szR 1048576 p.wt := Int.not_lt.1 hneg
  have hll : ((words R).toList.length : Int) = R.length := by rw [toList_list, hl]
  generalize nats X = g1 at *
  generalize sn24 p = s1 at *
  generalize words R = wr at *
  refine Is.of e5 ((Evt.and ((hsz.and (hto.and htq)).and (heqa.and heqb)) (Evt.and ((hmk.and hmq).and (hi.and hs)) (heqs.and (hms.and hhs)))).mp fun n h1 => ?_)
  obtain ⟨⟨⟨h1, h2, h3⟩, h4, h5⟩, ⟨⟨h6, h7⟩, h8, h9⟩, h11, h13, h15⟩ := h1
  simp (disch := omega) [F5, hll, c0, h1, h2, h3, h4, h5, h6, h7, h8, h9, h11, h13, h15, ltF, neF, isB_unit]
theorem pure_law (ps : List PV) (hl : ps.length = 2) (hwf : ∀ (j : Nat) t p, [24, 22][j]? = some t → ps[j]? = some p → WfT Try.prog t p) : ∃ n, ev Try.prog sg n 5 ps = some [.bool true] := by
  obtain ⟨p, q, rfl⟩ : ∃ p q, ps = [p, q] := by
    match ps, hl with
    | [a, b], _ => exact ⟨a, b, rfl⟩
  have hq := hwf 1 22 q rfl rfl
  obtain ⟨l, rfl, hll, he⟩ := wf_slice (e := 3) (by kernel_rfl) hq
  obtain ⟨R, rfl⟩ := words_of fun q hq => by
    obtain ⟨x, e, _⟩ := wf_int (k := .i64) (by kernel_rfl) (he q hq)
    exact ⟨x, e⟩
  refine (law (hwf 0 24 p rfl rfl) hq fun w hm => ?_).get
  obtain ⟨x, e, hx⟩ := wf_int (k := .i64) (by kernel_rfl) (he (.int w) (List.mem_map.2 ⟨w, hm, rfl⟩))
  cases e
  exact wf64 hx
end Go.Proofs.Ythmhgnnaihkjaaa.GFnExactReach
