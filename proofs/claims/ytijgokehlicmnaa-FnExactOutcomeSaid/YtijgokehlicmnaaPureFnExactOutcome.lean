/- What functions of the program and of the reference come to, for the law FnExactOutcome. Each under the conditions that it names. -/
import Derived.Test.YtijgokehlicmnaaCFnExactOutcome
namespace Go.Proofs.Ytijgokehlicmnaa.GFnExactOutcome
open Go Go.Rsc Go.Proofs.Ytijgokehlicmnaa
set_option maxRecDepth 100000
set_option linter.unusedVariables false
set_option linter.unusedSimpArgs false
theorem wordsOf {q : PV} (h : WfT Try.prog 22 q) (hw : q.wt ≤ 1048576) : ∃ W : List Int, q = words W ∧ W.length ≤ 1048576 ∧ ∀ w, w ∈ W → -9223372036854775808 ≤ w ∧ w < 9223372036854775808 := by
  obtain ⟨l, rfl, hl, he⟩ := wf_slice (e := 3) (by kernel_rfl) h
  obtain ⟨W, rfl⟩ := words_of fun q hq => by
    obtain ⟨x, e, _⟩ := wf_int (k := .i64) (by kernel_rfl) (he q hq)
    exact ⟨x, e⟩
  refine ⟨W, rfl, by simp at hw; omega, fun w hm => ?_⟩
  obtain ⟨x, e, hx⟩ := wf_int (k := .i64) (by kernel_rfl) (he (.int w) (List.mem_map.2 ⟨w, hm, rfl⟩))
  cases e
  exact wf64 hx
theorem mkVal {k n : Int} {kids : List PV} (h0 : -9223372036854775808 ≤ k ∧ k < 9223372036854775808) (h1 : -9223372036854775808 ≤ n ∧ n < 9223372036854775808) (h2 : kids.length ≤ 1000) (h : ∀ q, q ∈ kids → WfT Try.prog 28 q) : WfT Try.prog 28 (vV k n kids) :=
  mk28 h0 h1 (.slice (e := 28) (by kernel_rfl) (by have hm : maxLen = 9223372036854775807 := rfl; omega) h)
theorem bk_wf {W : List Int} {P : List Nat} : ∀ {d : Nat} {w : Int} {v : PV}, bk W P d w = some v → WfT Try.prog 28 v ∧ v.wt + 2 ≤ 2 ^ (d + 1)
  | 0, w, v, h => by cases h
  | d + 1, w, v, h => by
    have hp : 2 ≤ 2 ^ (d + 1 + 1) := by rw [Nat.pow_succ, Nat.pow_succ]; have := Nat.pow_pos (n := d) (show 0 < 2 by decide); omega
    simp only [bk] at h
    split at h
    · cases h
    · rename_i ht
      split at h
      · rename_i he
        cases h
        have ht : there P w = true := by simpa using ht
        have ho : okW (w / 2) = true := by
          unfold there at ht
          rw [eqF he] at ht
          simpa using ht
        simp only [okW, decide_eq_true_eq] at ho
        exact ⟨mkVal (by decide) (by omega) (by simp) (by simp), by simpa using hp⟩
      · split at h
        · cases h; exact ⟨mkVal (by decide) (by decide) (by simp) (by simp), by simpa using hp⟩
        · split at h
          · cases h; exact ⟨mkVal (by decide) (by decide) (by simp) (by simp), by simpa using hp⟩
          · split at h
            · cases h
            · split at h
              · rename_i a b ha hb
                cases h
                obtain ⟨a1, a2⟩ := bk_wf ha
                obtain ⟨b1, b2⟩ := bk_wf hb
                refine ⟨mkVal (by decide) (by decide) (by simp) fun q hq => ?_, ?_⟩
                · simp only [List.mem_cons, List.not_mem_nil, or_false] at hq
                  rcases hq with rfl | rfl
                  · exact a1
                  · exact b1
                · rw [Nat.pow_succ]
                  simp
                  omega
              · cases h
theorem out_wf {W : List Int} {half base next : Int} {o : Option PV} (ho : o = none ∨ ∃ w, o = backB W half base next w) : ∃ v ok, outB o = [v, .bool ok] ∧ WfT Try.prog 28 v ∧ v.wt ≤ 1000000 := by
  have hz : ∃ v ok, outB none = [v, .bool ok] ∧ WfT Try.prog 28 v ∧ v.wt ≤ 1000000 := ⟨_, _, rfl, mkVal (by decide) (by decide) (by simp) (by simp), by simp⟩
  rcases ho with rfl | ⟨w, rfl⟩
  · exact hz
  · unfold backB
    split
    · cases hb : bk W (plcs W base next) 16 w with
      | none => exact hz
      | some v =>
        obtain ⟨h1, h2⟩ := bk_wf hb
        exact ⟨v, true, rfl, h1, by have : 2 ^ (16 + 1) = 131072 := rfl; omega⟩
    · exact hz
theorem law {p : PV} (h : WfT Try.prog 63 p) : Rn 8 [p] [.bool true] := by
  have hsz := sz_45 h (x := 1048576) (by omega) (by omega)
  by_cases hneg : szR 1048576 p.wt < 0
  · refine Is.of e8 (hsz.mp fun n h1 => ?_)
    simp [F8, h1, ltT hneg]
  have hw : p.wt ≤ 1048576 := by have := mt (szR_neg (x := 1048576) (w := p.wt) (by omega)).2 hneg; omega
  have hto := to_47 h hw
  have heqa := eq_49 h
  have hcn := sn63_le h
  obtain ⟨m1, _, hmk⟩ := mark_61 h (k := 1) (by omega) (by omega)
  obtain ⟨o, ho, hi, hs⟩ : ∃ o, (o = none ∨ ∃ W half base next w, o = backB W half base next w) ∧ Rn 60 [p] (outB o) ∧ Rn 59 [p] (outB o) := by
    obtain ⟨x0, x1, x2, x3, x4, code, each, rfl, h0, h1, h2, h3, h4, _⟩ := wf63 h
    obtain ⟨y0, half, base, next, rfl, g0, _⟩ := wf24 h1
    simp at hw
    obtain ⟨W, rfl, hW, hW2⟩ := wordsOf g0 (by omega)
    obtain ⟨S, rfl, hS, hS2⟩ := wordsOf h2 (by omega)
    have hl := wordsLen S
    by_cases c1 : code = 1
    rotate_left
    · exact ⟨none, .inl rfl, Is.of e60 (Evt.all fun n => by simp [F60, neT c1, outB]), Is.of e59 (Evt.all fun n => by simp [F59, neT c1, outB])⟩
    by_cases c2 : S.length = 1
    rotate_left
    · have c3 : ¬ (S.length : Int) = 1 := by omega
      exact ⟨none, .inl rfl, Is.of e60 (Evt.all fun n => by simp [F60, neF c1, hl, neT c3, outB]), Is.of e59 (Evt.all fun n => by simp [F59, neF c1, hl, neT c3, outB])⟩
    have c3 : (S.length : Int) = 1 := by omega
    have hn := nth_gw (W := S) (i := 0) (by omega)
    refine ⟨backB W half base next (gw S 0), .inr ⟨_, _, _, _, _, rfl⟩, Is.of e60 ((backTI (half := half) (base := base) (next := next) hW hW2 (gw S 0)).mp fun n q => ?_), Is.of e59 ((backTS (half := half) (base := base) (next := next) hW hW2 (gw S 0)).mp fun n q => ?_)⟩
    · cases hb : backB W half base next (gw S 0) <;> rw [hb] at q <;> simp [outB] at q <;> simp (disch := omega) [F60, neF, hl, geT, ltT, hn, q, outB]
    · cases hb : backB W half base next (gw S 0) <;> rw [hb] at q <;> simp [outB] at q <;> simp (disch := omega) [F59, neF, hl, geT, ltT, hn, q, outB]
  obtain ⟨v, ok, ev, hv, hvw⟩ : ∃ v ok, outB o = [v, .bool ok] ∧ WfT Try.prog 28 v ∧ v.wt ≤ 1000000 := by
    rcases ho with rfl | ⟨W, half, base, next, w, rfl⟩
    · exact out_wf (W := []) (half := 0) (base := 0) (next := 0) (.inl rfl)
    · exact out_wf (.inr ⟨w, rfl⟩)
  rw [ev] at hi hs
  have heqr := eq_16 hv
  have hcr := sn28_le hv
  obtain ⟨m2, hg, hmr⟩ := mark_19 hv (k := 1) (by omega) (by omega)
  have hhr := held_20 hv (k := 1) (by omega) (by omega) hg
  refine Is.of e8 ((Evt.and (hsz.and (hto.and heqa)) (Evt.and (hmk.and (hi.and hs)) (Evt.and heqr (hmr.and hhr)))).mp fun n h1 => ?_)
  obtain ⟨⟨h1, h2, h3⟩, ⟨h4, h5, h6⟩, h7, h8, h9⟩ := h1
  have hge : 0 ≤ szR 1048576 p.wt := Int.not_lt.1 hneg
  simp (disch := omega) [F8, h1, h2, h3, h4, h5, h6, h7, h8, h9, ltF, neF]
theorem pure_law (ps : List PV) (hl : ps.length = 1) (hwf : ∀ (j : Nat) t p, [63][j]? = some t → ps[j]? = some p → WfT Try.prog t p) : ∃ n, ev Try.prog sg n 8 ps = some [.bool true] := by
  obtain ⟨p, rfl⟩ := List.length_eq_one_iff.1 hl
  exact (law (hwf 0 63 p rfl rfl)).get
end Go.Proofs.Ytijgokehlicmnaa.GFnExactOutcome
