/- The row of the law FnExactEval, out of its pure program. No conditions. -/
import Derived.Test.YtdkfgnnebaahaaaRows
import Derived.Test.YtdkfgnnebaahaaaPureFnExactEval
import Derived.WalkKit
import Derived.ProofKit
import Derived.OpenShut
import Derived.ShutString
import Derived.ChangeOld
import Derived.Below
import Derived.SizedLaws
import Derived.Shelf.Lay
import Derived.Ground.Names8Prog
namespace Go.Proofs
open Go.Shelf
shelf_lay_g Lays8.n4 Nm8 4 at Try 71 as Ytdkfgnnebaahaaa.fnExactEval.laysGrow
end Go.Proofs
namespace Go.Proofs.Ytdkfgnnebaahaaa.fnExactEval
open Go.ChangeShapes Go.WideShapes Go.ChangeAt
open Go.RowKit Go.Rsc
set_option linter.unusedVariables false
set_option linter.unusedSimpArgs false

theorem own : ownKnob Try.prog.godebug = none := by kernel_rfl
theorem laidOut : laidOutB Try.prog = true := by kernel_rfl
theorem growT : ∃ i : TypeInfo, Try.prog.info? 9 = some i ∧ i.zero = some (.string ⟨#[]⟩) ∧ i.size = 1 ∧ i.bytes ≤ 1024 := by
  have h : ((Try.prog.info? 9).map fun i => (i.zero, i.size, Nat.ble i.bytes 1024)) = some (some (.string ⟨#[]⟩), 1, true) := by kernel_rfl
  obtain ⟨i, hi, e⟩ := Option.map_eq_some_iff.1 h
  simp only [Prod.mk.injEq] at e
  exact ⟨i, hi, e.1, e.2.1, Nat.le_of_ble_eq_true e.2.2⟩
set_option maxRecDepth 100000 in
theorem orcs : Go.Rsc.Good Try.prog GFnExactEval.sg (orcI GFnExactEval.sg) := orc_good fun f s o hs ho az os h => by
  unfold GFnExactEval.sg at hs
  split at hs <;> first
    | (cases hs; cases ho; done)
    | (cases hs; cases ho; obtain ⟨i, hi, hz, h1, h2⟩ := growT; exact grow_good laysGrow (e := 9) (by kernel_rfl) hi hz h1 rfl h2 (by kernel_rfl) h)
    | (cases hs; done)
theorem kept {W : World} : Kp Try.prog W (fun b => b < W.heap.size) := kp_of (fun g hg => by cases (show Try.prog.globalNamed "internal/strconv.uint64pow10" = none by kernel_rfl).symm.trans hg) (err_none (by kernel_rfl) (by kernel_rfl))
set_option maxRecDepth 100000 in
theorem lifted (os : Os) (started : os.Started) (H : Type) (enc : TypeId × Value → H) :
    ReturnsInHanded {} Try.checked os 3 .any (Rows.fnExactEvalSpec.pre6 enc Try.prog Try.f3 Rows.fnExactEvalRow.domain false) (Rows.fnExactEvalSpec.post enc Try.prog Try.f3 false true false false) := by
  refine returnsInHanded_of_change_sized (C := Try.checked) own started (by kernel_rfl) Try.func3
    (ChangeSpec.witness6 (enc := enc) (C := Try.checked) false ⟨#[], #[.agg #[.int .i64 0, .int .i64 0, .string ⟨#[]⟩, .string ⟨#[]⟩, .slice none 0 0], .int .i64 0], []⟩ 8 (by kernel_rfl) (by kernel_rfl) (by kernel_rfl) (by kernel_rfl)) ?_
  intro W base args ds gs before hval0 hW hcnd hsz0 _
  have hval : ∀ (j : Nat) t v, Try.f3.params[j]? = some t → args[j]? = some v → Value.okWide Try.prog W .any base t v := hval0
  have hW' := hW
  obtain ⟨p, q, hA0, hV, rfl, hfz, hnd⟩ := hW
  have hA : DataW.TrodAll enc Try.prog W 0 (fun _ => true) true Try.f3.params.toList args.toList ds p := hA0
  rw [Try.params3] at hA hval
  obtain ⟨rfl, rfl⟩ := trodVars_none hV
  have hA1 : DataW.TrodAll enc Try.prog W 0 (fun _ => true) true [24, 3] args.toList ds p := hA
  obtain ⟨hl, hlt, ps, hl2, hR, hwf⟩ := args_ok (L := [24, 3, 9, 22]) (ts := [24, 3]) (by kernel_rfl) (by decide) hA1 (fun j t v ht hv => hval j t v (by simpa using ht) (by simpa using hv))
  obtain ⟨n, hn⟩ := GFnExactEval.pure_law ps hl2 hwf
  have hd : ds.length = 2 := trodAll_len hA1
  obtain ⟨d0, d1, rfl⟩ : ∃ d0 d1, ds = [d0, d1] := by
    match ds, hd with
    | [d0, d1], _ => exact ⟨d0, d1, rfl⟩
  have hc := law_calls (sg := GFnExactEval.sg) (Tb := compF Try.prog GFnExactEval.sg) (f := 3) (ts := [24, 3]) (by kernel_rfl) orcs kept (fun _ _ h => h) (by decide) (by kernel_rfl) hl hl2 hR hn
  rw [show args.toList.toArray = args by simp] at hc
  refine hc.mono fun e W' ⟨he, bel⟩ => ?_
  subst he
  exact ⟨_, rfl, _, _, _, [], _, [], hW', trodAll_mk1 (shut_bool Try.underlying4 _), trodAll_below laidOut bel (by kernel_rfl) hA1 hlt, rfl, bel.frame _, fun h => by cases h⟩
theorem over : Rows.fnExactEvalRow.holds Try.pinned (OpenSpec.ofChange Rows.fnExactEvalSpec) :=
  OpenClaim.holds_of_wide 3 Try.f3 rfl rfl rfl rfl rfl rfl rfl ⟨rfl, rfl, rfl, rfl, rfl⟩ rfl rfl rfl rfl rfl (by kernel_rfl) Try.func3 (by kernel_rfl)
    (of_decide_eq_true (by kernel_rfl)) (by unfold Func.isWrapper; first | (rw [if_pos (by decide +kernel)]; kernel_rfl) | (rw [if_neg (by decide +kernel)]; exact ⟨rfl, rfl⟩))
    (fun os started H enc _ => lifted os started H enc)
theorem proved : Rows.FnExactEvalSaid := over
#print axioms proved
end Go.Proofs.Ytdkfgnnebaahaaa.fnExactEval
namespace Go.Proofs.Ytdkfgnnebaahaaa
/-- The row, under a short name, for the claim. -/
theorem fnExactEval_holds : Rows.FnExactEvalSaid := fnExactEval.proved
end Go.Proofs.Ytdkfgnnebaahaaa
