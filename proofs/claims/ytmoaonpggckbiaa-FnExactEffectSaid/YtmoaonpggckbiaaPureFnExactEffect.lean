/- For every op the program's Effect returns what the reference's returns. No conditions. -/
import Derived.Test.YtmoaonpggckbiaaWfFnExactEffect
import Derived.Test.YtmoaonpggckbiaaAid
namespace Go.Proofs.Ytmoaonpggckbiaa.Pure
open Go.RowKit Go.Proofs.Ytmoaonpggckbiaa.QFnExactEffect Go.Proofs.Ytmoaonpggckbiaa.Aid Go.Proofs.YtmoaonpggckbiaaW.PrintWords Go.Proofs.YtmoaonpggckbiaaW.PrintLast Go.Proofs.YtmoaonpggckbiaaW.PrintMore
set_option linter.unusedVariables false
set_option linter.unusedSimpArgs false

theorem spec_eff (a b c : Int) : Ev (fun k => spec_Effect.f k a b c) (if 1 ≤ a ∧ a ≤ 4 then (0, 1) else if a = 5 ∨ a = 8 then (c, 1) else if a = 7 ∨ a = 10 ∨ a = 11 ∨ a = 18 then (1, 0) else if a = 9 ∨ a = 17 then (1, 1) else if a = 6 ∨ a = 20 ∨ (12 ≤ a ∧ a ≤ 16) then (2, 1) else (0, 0)) := by
  refine ⟨10, fun k hk => ?_⟩
  obtain ⟨m, rfl⟩ : ∃ m, k = m + 10 := ⟨k - 10, by omega⟩
  by_cases h : 1 ≤ a ∧ a ≤ 20
  · have h2 : a = 1 ∨ a = 2 ∨ a = 3 ∨ a = 4 ∨ a = 5 ∨ a = 6 ∨ a = 7 ∨ a = 8 ∨ a = 9 ∨ a = 10 ∨ a = 11 ∨ a = 12 ∨ a = 13 ∨ a = 14 ∨ a = 15 ∨ a = 16 ∨ a = 17 ∨ a = 18 ∨ a = 19 ∨ a = 20 := by omega
    rcases h2 with rfl | rfl | rfl | rfl | rfl | rfl | rfl | rfl | rfl | rfl | rfl | rfl | rfl | rfl | rfl | rfl | rfl | rfl | rfl | rfl <;> rfl
  · have hn : ∀ n : Int, 1 ≤ n → n ≤ 20 → ¬ a = n := fun n h1 h2 he => h (by omega)
    have hb : ∀ n : Int, 1 ≤ n → n ≤ 20 → (a == n) = false := fun n h1 h2 => beq_eq_false_iff_ne.2 (hn n h1 h2)
    simp only [spec_Effect.f, spec_Effect.j0, spec_Effect.j1, spec_Effect.j2, spec_Effect.j3, hn 1 (by omega) (by omega), hn 2 (by omega) (by omega), hn 3 (by omega) (by omega), hb 4 (by omega) (by omega), hn 5 (by omega) (by omega), hn 6 (by omega) (by omega), hn 7 (by omega) (by omega), hn 8 (by omega) (by omega), hb 8 (by omega) (by omega), hn 9 (by omega) (by omega), hn 10 (by omega) (by omega), hn 11 (by omega) (by omega), hn 12 (by omega) (by omega), hn 13 (by omega) (by omega), hn 14 (by omega) (by omega), hn 15 (by omega) (by omega), hn 16 (by omega) (by omega), hn 17 (by omega) (by omega), hb 17 (by omega) (by omega), hn 18 (by omega) (by omega), hb 18 (by omega) (by omega), hn 20 (by omega) (by omega), if_false, Bool.false_eq_true, or_false, false_or]
    rw [if_neg (by omega), if_neg (by omega)]
theorem impl_eff (a b c : Int) : Ev (fun k => impl_Effect.f k a b c) (if 1 ≤ a ∧ a ≤ 4 then (0, 1) else if a = 5 ∨ a = 8 then (c, 1) else if a = 7 ∨ a = 10 ∨ a = 11 ∨ a = 18 then (1, 0) else if a = 9 ∨ a = 17 then (1, 1) else if a = 6 ∨ a = 20 ∨ (12 ≤ a ∧ a ≤ 16) then (2, 1) else (0, 0)) := by
  refine ⟨10, fun k hk => ?_⟩
  obtain ⟨m, rfl⟩ : ∃ m, k = m + 10 := ⟨k - 10, by omega⟩
  by_cases h : 1 ≤ a ∧ a ≤ 20
  · have h2 : a = 1 ∨ a = 2 ∨ a = 3 ∨ a = 4 ∨ a = 5 ∨ a = 6 ∨ a = 7 ∨ a = 8 ∨ a = 9 ∨ a = 10 ∨ a = 11 ∨ a = 12 ∨ a = 13 ∨ a = 14 ∨ a = 15 ∨ a = 16 ∨ a = 17 ∨ a = 18 ∨ a = 19 ∨ a = 20 := by omega
    rcases h2 with rfl | rfl | rfl | rfl | rfl | rfl | rfl | rfl | rfl | rfl | rfl | rfl | rfl | rfl | rfl | rfl | rfl | rfl | rfl | rfl <;> rfl
  · have hn : ∀ n : Int, 1 ≤ n → n ≤ 20 → ¬ a = n := fun n h1 h2 he => h (by omega)
    have hb : ∀ n : Int, 1 ≤ n → n ≤ 20 → (a == n) = false := fun n h1 h2 => beq_eq_false_iff_ne.2 (hn n h1 h2)
    have w1 : impl_within.f a 1 4 = some false := by
      unfold impl_within.f
      by_cases c : a ≥ 1
      · rw [if_pos c, decide_eq_false (by omega)]
      · rw [if_neg c]
    have w2 : impl_within.f a 12 16 = some false := by
      unfold impl_within.f
      by_cases c : a ≥ 12
      · rw [if_pos c, decide_eq_false (by omega)]
      · rw [if_neg c]
    simp only [impl_Effect.f, impl_Effect.j0, impl_Effect.j1, impl_Effect.j2, w1, w2, Option.bind_some, hn 5 (by omega) (by omega), hn 6 (by omega) (by omega), hn 7 (by omega) (by omega), hn 8 (by omega) (by omega), hb 8 (by omega) (by omega), hn 9 (by omega) (by omega), hn 10 (by omega) (by omega), hn 11 (by omega) (by omega), hn 17 (by omega) (by omega), hb 18 (by omega) (by omega), hn 18 (by omega) (by omega), hn 20 (by omega) (by omega), if_false, Bool.false_eq_true, or_false, false_or]
    rw [if_neg (by omega), if_neg (by omega)]
theorem FnExactEffect : WfFnExactEffect.Pure := by
  intro x _
  refine Ev.rounds (g := fun k => laws_FnExactEffect.f k x.f0 x.f1 x.f2) ?_
  unfold laws_FnExactEffect.f
  simp only [laws_toOp.f, Option.bind_some]
  refine Ev.bind (spec_eff x.f0 x.f1 x.f2) (Ev.bind (impl_eff x.f0 x.f1 x.f2) ?_)
  simp only [if_true]
  exact Ev.now _
end Go.Proofs.Ytmoaonpggckbiaa.Pure
