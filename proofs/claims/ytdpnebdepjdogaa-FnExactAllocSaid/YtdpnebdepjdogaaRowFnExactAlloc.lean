/- The row of the law FnExactAlloc, out of its pure statement and the contract of its function. No conditions. -/
import Derived.Test.YtdpnebdepjdogaaRows
import Derived.Test.YtdpnebdepjdogaaWfFnExactAlloc
import Derived.Test.YtdpnebdepjdogaaPureFnExactAlloc
import Derived.WalkKit
import Derived.ProofKit
import Derived.OpenShut
import Derived.ShutString
import Derived.ChangeOld
import Derived.Below
import Derived.SizedLaws
namespace Go.Proofs.Ytdpnebdepjdogaa.fnExactAlloc
open Go.ChangeShapes Go.WideShapes Go.ChangeAt
open Go.ChangeMaps (open_string shut_string)
open Go.RowKit Go.Proofs.Ytdpnebdepjdogaa.QFnExactAlloc Go.Proofs.Ytdpnebdepjdogaa.Open Go.Proofs.YtdpnebdepjdogaaW.PrintWords Go.Proofs.Ytdpnebdepjdogaa.WfFnExactAlloc
set_option maxRecDepth 100000
set_option linter.unusedVariables false
set_option linter.unusedSimpArgs false

theorem own : ownKnob Try.prog.godebug = none := by kernel_rfl
theorem laidOut : laidOutB Try.prog = true := by kernel_rfl
set_option maxRecDepth 100000 in
theorem lifted (os : Os) (started : os.Started) (H : Type) (enc : TypeId × Value → H) :
    ReturnsInHanded {} Try.checked os 5 .any (Rows.fnExactAllocSpec.pre6 enc Try.prog Try.f5 Rows.fnExactAllocRow.domain false) (Rows.fnExactAllocSpec.post enc Try.prog Try.f5 false true false false) := by
  refine returnsInHanded_of_change_sized (C := Try.checked) own started (by kernel_rfl) Try.func5
    (ChangeSpec.witness6 (enc := enc) (C := Try.checked) false ⟨#[], #[.agg #[.slice none 0 0, .int .i64 0, .int .i64 0, .int .i64 0], .bool false, .int .i64 0, .slice none 0 0], []⟩ 8 (by kernel_rfl) (by kernel_rfl) (by kernel_rfl) (by kernel_rfl)) ?_
  intro W base args ds gs before hval0 hW hcnd hsz0 _
  have hval : ∀ (j : Nat) t v, Try.f5.params[j]? = some t → args[j]? = some v → Value.okWide Try.prog W .any base t v := hval0
  have hW' := hW
  obtain ⟨p, q, hA0, hV, rfl, hfz, hnd⟩ := hW
  have hA : DataW.TrodAll enc Try.prog W 0 (fun _ => true) true Try.f5.params.toList args.toList ds p := hA0
  rw [Try.params5] at hA hval
  obtain ⟨v0, vs0, d0, ds0, p0, q0, hargs, rfl, rfl, h0, r0⟩ := trodAll_cons hA
  obtain ⟨v1, vs1, d1, ds1, p1, q1, rfl, rfl, rfl, h1, r1⟩ := trodAll_cons r0
  obtain ⟨v2, vs2, d2, ds2, p2, q2, rfl, rfl, rfl, h2, r2⟩ := trodAll_cons r1
  obtain ⟨v3, vs3, d3, ds3, p3, q3, rfl, rfl, rfl, h3, r3⟩ := trodAll_cons r2
  obtain ⟨rfl, rfl, rfl⟩ := trodAll_nil r3
  obtain rfl : args = #[v0, v1, v2, v3] := by cases args; simp_all
  obtain ⟨rfl, rfl⟩ := trodVars_none hV
  have k0 := h0
  have lt0 : ∀ x ∈ p0, x.block < W.heap.size := by obtain ⟨m, hm⟩ := k0; exact DataW.trod_lt m _ _ _ hm
  obtain ⟨cs0, rfl, _⟩ := okWide_struct Try.underlying24 (hval 0 24 v0 rfl rfl)
  obtain ⟨x0, hK0, w0⟩ : ∃ x, k24.K W x cs0.toList ∧ Wf24 x := by
    obtain ⟨fuel, hf⟩ := h0
    exact opens24 fuel fuel _ _ (Nat.le_refl _) (by simpa [Value.cells] using hf)
  obtain ⟨A0_0, c0_0, e0, l0_0, g0_0⟩ := k24_open hK0
  obtain rfl := agg_of_list e0
  obtain ⟨x1, rfl, rfl, rfl⟩ := open_bool Try.underlying4 (hval 1 4 v1 rfl rfl) h1
  obtain ⟨x2, rfl, rfl, rfl, w2⟩ := open_int Try.underlying3 (hval 2 3 v2 rfl rfl) h2
  have k3 := h3
  have lt3 : ∀ x ∈ p3, x.block < W.heap.size := by obtain ⟨m, hm⟩ := k3; exact DataW.trod_lt m _ _ _ hm
  obtain ⟨a3, len3, cap3, rfl⟩ := okWide_slice Try.underlying22 (hval 3 22 v3 rfl rfl)
  obtain ⟨x3, hK3, w3⟩ : ∃ x, Kd.K (Kd.slice 3 (Kd.int .i64)) W x [.slice a3 len3 cap3] ∧ (x.length ≤ maxLen ∧ ∀ y ∈ x, (Lit.int .i64 y).wf = true) := by
    obtain ⟨fuel, hf⟩ := h3
    exact (opens_slice (n := fuel) Try.underlying22 (by kernel_rfl) (opens_int Try.underlying3)) fuel _ _ (Nat.le_refl _) (by simpa [Value.cells] using hf)
  obtain ⟨A3, c3, e3, l3, g3⟩ := hK3
  simp only [List.cons.injEq, Value.slice.injEq, and_true] at e3
  obtain ⟨rfl, rfl, rfl⟩ := e3
  clear hA0 hval0 hsz0
  obtain ⟨k, h⟩ := Pure.FnExactAlloc x0 x1 x2 x3 w0 w2 w3
  refine (laws_FnExactAlloc.calls k _ _ x0.f0 x0.f1 x0.f2 x0.f3 x1 x2 _ _ x3 true W g0_0 l0_0 g3 l3 h).mono fun e W' ⟨he, hd⟩ => ?_
  have bel : Below W.heap.size W W' := hd
  subst he
  exact ⟨_, rfl, _, _, _, [], _, [], hW', trodAll_mk1 (shut_bool Try.underlying4 _), (trodAll_cons_mk (Below.trod laidOut (by kernel_rfl) (of_decide_eq_true (by kernel_rfl)) k0 bel lt0) (trodAll_cons_mk (shut_bool Try.underlying4 _) (trodAll_cons_mk (shut_int Try.underlying3 w2) (trodAll_cons_mk (Below.trod laidOut (by kernel_rfl) (of_decide_eq_true (by kernel_rfl)) k3 bel lt3) trodAll_mk0)))), rfl, bel.frame _, fun h => by cases h⟩
theorem over : Rows.fnExactAllocRow.holds Try.pinned (OpenSpec.ofChange Rows.fnExactAllocSpec) :=
  OpenClaim.holds_of_wide 5 Try.f5 rfl rfl rfl rfl rfl rfl rfl ⟨rfl, rfl, rfl, rfl, rfl⟩ rfl rfl rfl rfl rfl (by kernel_rfl) Try.func5 (by kernel_rfl)
    (of_decide_eq_true (by kernel_rfl)) (by unfold Func.isWrapper; first | (rw [if_pos (by decide +kernel)]; kernel_rfl) | (rw [if_neg (by decide +kernel)]; exact ⟨rfl, rfl⟩))
    (fun os started H enc _ => lifted os started H enc)
theorem proved : Rows.FnExactAllocSaid := over
#print axioms proved
end Go.Proofs.Ytdpnebdepjdogaa.fnExactAlloc
namespace Go.Proofs.Ytdpnebdepjdogaa
/-- The row, under a short name, for the claim. -/
theorem fnExactAlloc_holds : Rows.FnExactAllocSaid := fnExactAlloc.proved
end Go.Proofs.Ytdpnebdepjdogaa
