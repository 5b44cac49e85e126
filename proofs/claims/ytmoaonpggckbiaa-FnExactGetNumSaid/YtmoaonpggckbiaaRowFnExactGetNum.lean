/- The row of the law FnExactGetNum, out of its pure statement and the contract of its function. No conditions. -/
import Derived.Test.YtmoaonpggckbiaaRows
import Derived.Test.YtmoaonpggckbiaaWfFnExactGetNum
import Derived.Test.YtmoaonpggckbiaaPureFnExactGetNum
import Derived.WalkKit
import Derived.ProofKit
import Derived.OpenShut
import Derived.ShutString
import Derived.ChangeOld
import Derived.Below
import Derived.SizedLaws
namespace Go.Proofs.Ytmoaonpggckbiaa.fnExactGetNum
open Go.ChangeShapes Go.WideShapes Go.ChangeAt
open Go.ChangeMaps (open_string shut_string)
open Go.RowKit Go.Proofs.Ytmoaonpggckbiaa.PFnExactGetNum Go.Proofs.Ytmoaonpggckbiaa.Open Go.Proofs.YtmoaonpggckbiaaW.PrintWords Go.Proofs.Ytmoaonpggckbiaa.WfFnExactGetNum
set_option linter.unusedVariables false
set_option linter.unusedSimpArgs false

theorem own : ownKnob Try.prog.godebug = none := by kernel_rfl
theorem laidOut : laidOutB Try.prog = true := by kernel_rfl
set_option maxRecDepth 100000 in
theorem lifted (os : Os) (started : os.Started) (H : Type) (enc : TypeId × Value → H) :
    ReturnsInHanded {} Try.checked os 10 .any (Rows.fnExactGetNumSpec.pre6 enc Try.prog Try.f10 Rows.fnExactGetNumRow.domain false) (Rows.fnExactGetNumSpec.post enc Try.prog Try.f10 false true false false) := by
  refine returnsInHanded_of_change_sized (C := Try.checked) own started (by kernel_rfl) Try.func10
    (ChangeSpec.witness6 (enc := enc) (C := Try.checked) false ⟨#[], #[.slice none 0 0, .int .i64 0], []⟩ 8 (by kernel_rfl) (by kernel_rfl) (by kernel_rfl) (by kernel_rfl)) ?_
  intro W base args ds gs before hval0 hW hcnd hsz0 _
  have hval : ∀ (j : Nat) t v, Try.f10.params[j]? = some t → args[j]? = some v → Value.okWide Try.prog W .any base t v := hval0
  have hW' := hW
  obtain ⟨p, q, hA0, hV, rfl, hfz, hnd⟩ := hW
  have hA : DataW.TrodAll enc Try.prog W 0 (fun _ => true) true Try.f10.params.toList args.toList ds p := hA0
  rw [Try.params10] at hA hval
  obtain ⟨v0, vs0, d0, ds0, p0, q0, hargs, rfl, rfl, h0, r0⟩ := trodAll_cons hA
  obtain ⟨v1, vs1, d1, ds1, p1, q1, rfl, rfl, rfl, h1, r1⟩ := trodAll_cons r0
  obtain ⟨rfl, rfl, rfl⟩ := trodAll_nil r1
  obtain rfl : args = #[v0, v1] := by cases args; simp_all
  obtain ⟨rfl, rfl⟩ := trodVars_none hV
  have k0 := h0
  have lt0 : ∀ x ∈ p0, x.block < W.heap.size := by obtain ⟨m, hm⟩ := k0; exact DataW.trod_lt m _ _ _ hm
  obtain ⟨a0, len0, cap0, rfl⟩ := okWide_slice Try.underlying31 (hval 0 31 v0 rfl rfl)
  obtain ⟨x0, hK0, w0⟩ : ∃ x, Kd.K (Kd.slice 5 (Kd.int .u8)) W x [.slice a0 len0 cap0] ∧ (x.length ≤ maxLen ∧ ∀ y ∈ x, (Lit.int .u8 y).wf = true) := by
    obtain ⟨fuel, hf⟩ := h0
    exact (opens_slice (n := fuel) Try.underlying31 (by kernel_rfl) (opens_int Try.underlying5)) fuel _ _ (Nat.le_refl _) (by simpa [Value.cells] using hf)
  obtain ⟨A0, c0, e0, l0, g0⟩ := hK0
  simp only [List.cons.injEq, Value.slice.injEq, and_true] at e0
  obtain ⟨rfl, rfl, rfl⟩ := e0
  obtain ⟨x1, rfl, rfl, rfl, w1⟩ := open_int Try.underlying3 (hval 1 3 v1 rfl rfl) h1
  clear hA0 hval0 hsz0
  obtain ⟨k, h⟩ := Pure.FnExactGetNum x0 x1 w0 w1
  refine (laws_FnExactGetNum.calls k _ _ x0 x1 true W g0 l0 h).mono fun e W' ⟨he, hd⟩ => ?_
  have bel : Below W.heap.size W W' := hd
  subst he
  exact ⟨_, rfl, _, _, _, [], _, [], hW', trodAll_mk1 (shut_bool Try.underlying4 _), (trodAll_cons_mk (Below.trod laidOut (by kernel_rfl) (of_decide_eq_true (by kernel_rfl)) k0 bel lt0) (trodAll_cons_mk (shut_int Try.underlying3 w1) trodAll_mk0)), rfl, bel.frame _, fun h => by cases h⟩
theorem over : Rows.fnExactGetNumRow.holds Try.pinned (OpenSpec.ofChange Rows.fnExactGetNumSpec) :=
  OpenClaim.holds_of_wide 10 Try.f10 rfl rfl rfl rfl rfl rfl rfl ⟨rfl, rfl, rfl, rfl, rfl⟩ rfl rfl rfl rfl rfl (by kernel_rfl) Try.func10 (by kernel_rfl)
    (of_decide_eq_true (by kernel_rfl)) (by unfold Func.isWrapper; first | (rw [if_pos (by decide +kernel)]; kernel_rfl) | (rw [if_neg (by decide +kernel)]; exact ⟨rfl, rfl⟩))
    (fun os started H enc _ => lifted os started H enc)
theorem proved : Rows.FnExactGetNumSaid := over
#print axioms proved
end Go.Proofs.Ytmoaonpggckbiaa.fnExactGetNum
namespace Go.Proofs.Ytmoaonpggckbiaa
/-- The row, under a short name, for the claim. -/
theorem fnExactGetNum_holds : Rows.FnExactGetNumSaid := fnExactGetNum.proved
end Go.Proofs.Ytmoaonpggckbiaa
