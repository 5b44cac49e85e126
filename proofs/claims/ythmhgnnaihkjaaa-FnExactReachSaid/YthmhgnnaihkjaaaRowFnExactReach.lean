/- The row of the law FnExactReach, out of its pure program. No conditions. -/
import Derived.Test.YthmhgnnaihkjaaaRows
import Derived.Test.YthmhgnnaihkjaaaPureFnExactReach
import Derived.WalkKit
import Derived.ProofKit
import Derived.OpenShut
import Derived.ShutString
import Derived.ChangeOld
import Derived.Below
import Derived.SizedLaws
import Derived.Shelf.Lay
import Derived.Ground.NamesProg
namespace Go.Proofs
open Go.Shelf
shelf_lay Lays.n189 Nm 189 at Try as Ythmhgnnaihkjaaa.fnExactReach.laysSort
end Go.Proofs
namespace Go.Proofs.Ythmhgnnaihkjaaa.fnExactReach
open Go.ChangeShapes Go.WideShapes Go.ChangeAt
open Go.RowKit Go.Rsc
set_option linter.unusedVariables false
set_option linter.unusedSimpArgs false

theorem own : ownKnob Try.prog.godebug = none := by kernel_rfl
theorem laidOut : laidOutB Try.prog = true := by kernel_rfl
theorem orcs : Go.Rsc.Good Try.prog GFnExactReach.sg (orcI GFnExactReach.sg) := orc_good fun f s o hs ho az os h => by
  unfold GFnExactReach.sg at hs
  split at hs <;> first
    | (cases hs; cases ho; done)
    | (cases hs; cases ho; exact sort_good laysSort (by kernel_rfl) h)
    | (cases hs; done)
theorem kept {W : World} : Kp Try.prog W (fun b => b < W.heap.size) := kp_of fun g hg => by cases (show Try.prog.globalNamed "internal/strconv.uint64pow10" = none by kernel_rfl).symm.trans hg
set_option maxRecDepth 100000 in
theorem lifted (os : Os) (started : os.Started) (H : Type) (enc : TypeId × Value → H) :
    ReturnsInHanded {} Try.checked os 5 .any (Rows.fnExactReachSpec.pre6 enc Try.prog Try.f5 Rows.fnExactReachRow.domain false) (Rows.fnExactReachSpec.post enc Try.prog Try.f5 false true false false) := by
  refine returnsInHanded_of_change_sized (C := Try.checked) own started (by kernel_rfl) Try.func5
    (ChangeSpec.witness6 (enc := enc) (C := Try.checked) false ⟨#[], #[.agg #[.slice none 0 0, .int .i64 0, .int .i64 0, .int .i64 0], .slice none 0 0], []⟩ 8 (by kernel_rfl) (by kernel_rfl) (by kernel_rfl) (by kernel_rfl)) ?_
  intro W base args ds gs before hval0 hW hcnd hsz0 _
  have hval : ∀ (j : Nat) t v, Try.f5.params[j]? = some t → args[j]? = some v → Value.okWide Try.prog W .any base t v := hval0
  have hW' := hW
  obtain ⟨p, q, hA0, hV, rfl, hfz, hnd⟩ := hW
  have hA : DataW.TrodAll enc Try.prog W 0 (fun _ => true) true Try.f5.params.toList args.toList ds p := hA0
  rw [Try.params5] at hA hval
  obtain ⟨rfl, rfl⟩ := trodVars_none hV
  have hA1 : DataW.TrodAll enc Try.prog W 0 (fun _ => true) true [24, 22] args.toList ds p := hA
  obtain ⟨hl, hlt, ps, hl2, hR, hwf⟩ := args_ok (L := [24, 22, 3]) (ts := [24, 22]) (by kernel_rfl) (by decide) hA1 (fun j t v ht hv => hval j t v (by simpa using ht) (by simpa using hv))
  obtain ⟨n, hn⟩ := GFnExactReach.pure_law ps hl2 hwf
  have hd : ds.length = 2 := trodAll_len hA1
  obtain ⟨d0, d1, rfl⟩ : ∃ d0 d1, ds = [d0, d1] := by
    match ds, hd with
    | [d0, d1], _ => exact ⟨d0, d1, rfl⟩
  have hc := law_calls (sg := GFnExactReach.sg) (Tb := compF Try.prog GFnExactReach.sg) (f := 5) (ts := [24, 22]) (by kernel_rfl) orcs kept (fun _ _ h => h) (by decide) (by kernel_rfl) hl hl2 hR hn
  rw [show args.toList.toArray = args by simp] at hc
  refine hc.mono fun e W' ⟨he, bel⟩ => ?_
  subst he
  exact ⟨_, rfl, _, _, _, [], _, [], hW', trodAll_mk1 (shut_bool Try.underlying4 _), trodAll_below laidOut bel (by kernel_rfl) hA1 hlt, rfl, bel.frame _, fun h => by cases h⟩
theorem over : Rows.fnExactReachRow.holds Try.pinned (OpenSpec.ofChange Rows.fnExactReachSpec) :=
  OpenClaim.holds_of_wide 5 Try.f5 rfl rfl rfl rfl rfl rfl rfl ⟨rfl, rfl, rfl, rfl, rfl⟩ rfl rfl rfl rfl rfl (by kernel_rfl) Try.func5 (by kernel_rfl)
    (of_decide_eq_true (by kernel_rfl)) (by unfold Func.isWrapper; first | (rw [if_pos (by decide +kernel)]; kernel_rfl) | (rw [if_neg (by decide +kernel)]; exact ⟨rfl, rfl⟩))
    (fun os started H enc _ => lifted os started H enc)
theorem proved : Rows.FnExactReachSaid := over
#print axioms proved
end Go.Proofs.Ythmhgnnaihkjaaa.fnExactReach
namespace Go.Proofs.Ythmhgnnaihkjaaa
/-- The row, under a short name, for the claim. -/
theorem fnExactReach_holds : Rows.FnExactReachSaid := fnExactReach.proved
end Go.Proofs.Ythmhgnnaihkjaaa
