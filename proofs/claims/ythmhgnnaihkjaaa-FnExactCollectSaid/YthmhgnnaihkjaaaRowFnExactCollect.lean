/- The row of the law FnExactCollect, out of its pure program. No conditions. -/
import Derived.Test.YthmhgnnaihkjaaaRows
import Derived.Test.YthmhgnnaihkjaaaPureFnExactCollect
import Derived.WalkKit
import Derived.ProofKit
import Derived.OpenShut
import Derived.ShutString
import Derived.ChangeOld
import Derived.Below
import Derived.SizedLaws
namespace Go.Proofs.Ythmhgnnaihkjaaa.fnExactCollect
open Go.ChangeShapes Go.WideShapes Go.ChangeAt
open Go.RowKit Go.Rsc
set_option linter.unusedVariables false
set_option linter.unusedSimpArgs false

theorem own : ownKnob Try.prog.godebug = none := by kernel_rfl
theorem laidOut : laidOutB Try.prog = true := by kernel_rfl
theorem orcs : Go.Rsc.Good Try.prog GFnExactCollect.sg (orcI GFnExactCollect.sg) := orc_none fun f s h => by
  unfold GFnExactCollect.sg at h
  split at h <;> first | (cases h; rfl) | cases h
theorem kept {W : World} : Kp Try.prog W (fun b => b < W.heap.size) := kp_of fun g hg => by cases (show Try.prog.globalNamed "internal/strconv.uint64pow10" = none by kernel_rfl).symm.trans hg
set_option maxRecDepth 100000 in
theorem lifted (os : Os) (started : os.Started) (H : Type) (enc : TypeId × Value → H) :
    ReturnsInHanded {} Try.checked os 3 .any (Rows.fnExactCollectSpec.pre6 enc Try.prog Try.f3 Rows.fnExactCollectRow.domain false) (Rows.fnExactCollectSpec.post enc Try.prog Try.f3 false true false false) := by
  refine returnsInHanded_of_change_sized (C := Try.checked) own started (by kernel_rfl) Try.func3
    (ChangeSpec.witness6 (enc := enc) (C := Try.checked) false ⟨#[], #[.agg #[.slice none 0 0, .int .i64 0, .int .i64 0, .int .i64 0], .slice none 0 0], []⟩ 8 (by kernel_rfl) (by kernel_rfl) (by kernel_rfl) (by kernel_rfl)) ?_
  intro W base args ds gs before hval0 hW hcnd hsz0 _
  have hval : ∀ (j : Nat) t v, Try.f3.params[j]? = some t → args[j]? = some v → Value.okWide Try.prog W .any base t v := hval0
  have hW' := hW
  obtain ⟨p, q, hA0, hV, rfl, hfz, hnd⟩ := hW
  have hA : DataW.TrodAll enc Try.prog W 0 (fun _ => true) true Try.f3.params.toList args.toList ds p := hA0
  rw [Try.params3] at hA hval
  obtain ⟨rfl, rfl⟩ := trodVars_none hV
  have hA1 : DataW.TrodAll enc Try.prog W 0 (fun _ => true) true [24, 22] args.toList ds p := hA
  obtain ⟨hl, hlt, ps, hl2, hR, hwf⟩ := args_ok (L := [24, 22, 3]) (ts := [24, 22]) (by kernel_rfl) (by decide) hA1 (fun j t v ht hv => hval j t v (by simpa using ht) (by simpa using hv))
  obtain ⟨n, hn⟩ := GFnExactCollect.pure_law ps hl2 hwf
  have hd : ds.length = 2 := trodAll_len hA1
  obtain ⟨d0, d1, rfl⟩ : ∃ d0 d1, ds = [d0, d1] := by
    match ds, hd with
    | [d0, d1], _ => exact ⟨d0, d1, rfl⟩
  have hc := law_calls (sg := GFnExactCollect.sg) (Tb := compF Try.prog GFnExactCollect.sg) (f := 3) (ts := [24, 22]) (by kernel_rfl) orcs kept (fun _ _ h => h) (by decide) (by kernel_rfl) hl hl2 hR hn
  rw [show args.toList.toArray = args by simp] at hc
  refine hc.mono fun e W' ⟨he, bel⟩ => ?_
  subst he
  exact ⟨_, rfl, _, _, _, [], _, [], hW', trodAll_mk1 (shut_bool Try.underlying4 _), trodAll_below laidOut bel (by kernel_rfl) hA1 hlt, rfl, bel.frame _, fun h => by cases h⟩
theorem over : Rows.fnExactCollectRow.holds Try.pinned (OpenSpec.ofChange Rows.fnExactCollectSpec) :=
  OpenClaim.holds_of_wide 3 Try.f3 rfl rfl rfl rfl rfl rfl rfl ⟨rfl, rfl, rfl, rfl, rfl⟩ rfl rfl rfl rfl rfl (by kernel_rfl) Try.func3 (by kernel_rfl)
    (of_decide_eq_true (by kernel_rfl)) (by unfold Func.isWrapper; first | (rw [if_pos (by decide +kernel)]; kernel_rfl) | (rw [if_neg (by decide +kernel)]; exact ⟨rfl, rfl⟩))
    (fun os started H enc _ => lifted os started H enc)
theorem proved : Rows.FnExactCollectSaid := over
#print axioms proved
end Go.Proofs.Ythmhgnnaihkjaaa.fnExactCollect
namespace Go.Proofs.Ythmhgnnaihkjaaa
/-- The row, under a short name, for the claim. -/
theorem fnExactCollect_holds : Rows.FnExactCollectSaid := fnExactCollect.proved
end Go.Proofs.Ythmhgnnaihkjaaa
