/- The row of the law FnExactKin, out of its pure program. No conditions. -/
import Derived.Test.YthmhgnnaihkjaaaRows
import Derived.Test.YthmhgnnaihkjaaaPureFnExactKin
import Derived.WalkKit
import Derived.ProofKit
import Derived.OpenShut
import Derived.ShutString
import Derived.ChangeOld
import Derived.Below
import Derived.SizedLaws
import Derived.Shelf.Lay
import Derived.Ground.NamesProg
import Derived.Ground.Names2Prog
import Derived.Ground.SlgfProg
namespace Go.Proofs
open Go.Shelf
shelf_lay Lays.n189 Nm 189 at Try as Ythmhgnnaihkjaaa.fnExactKin.laysSort
shelf_lay Lays2.n20 Nm2 20 at Try as Ythmhgnnaihkjaaa.fnExactKin.laysCpt
shelf_lay_g SlLaysH.n10 Slgf 10 at Try 45 as Ythmhgnnaihkjaaa.fnExactKin.laysDel
theorem Ythmhgnnaihkjaaa.fnExactKin.neg (x : Int) (w : World) : Calls Try.prog 46 #[.int .i64 x] w fun e w' => e = .returned (.bool (decide (x < 0))) ∧ ∃ q, w' = w.drewN q := by
  go_enter Try.func46, Try.ntmps46
  go_wp2
  all_goals (go_ret; exact ⟨by simp_all, 0, rfl⟩)
end Go.Proofs
namespace Go.Proofs.Ythmhgnnaihkjaaa.fnExactKin
open Go.ChangeShapes Go.WideShapes Go.ChangeAt
open Go.RowKit Go.Rsc
set_option linter.unusedVariables false
set_option linter.unusedSimpArgs false

theorem own : ownKnob Try.prog.godebug = none := by kernel_rfl
theorem laidOut : laidOutB Try.prog = true := by kernel_rfl
set_option maxRecDepth 100000 in
theorem orcs : Go.Rsc.Good Try.prog GFnExactKin.sg (orcI GFnExactKin.sg) := orc_good fun f s o hs ho az os h => by
  unfold GFnExactKin.sg at hs
  split at hs <;> first
    | (cases hs; cases ho; done)
    | (cases hs; cases ho; exact sort_good laysSort (by kernel_rfl) h)
    | (cases hs; cases ho; exact compact_good laysCpt (by kernel_rfl) h)
    | (cases hs; cases ho; exact delneg_good laysDel (by kernel_rfl) (g := 46) (by decide) (enters_of Try.func46 (by kernel_rfl) rfl) Try.zeroValue2 neg h)
    | (cases hs; done)
theorem kept {W : World} : Kp Try.prog W (fun b => b < W.heap.size) := kp_of (fun g hg => by cases (show Try.prog.globalNamed "internal/strconv.uint64pow10" = none by kernel_rfl).symm.trans hg) (err_none (by kernel_rfl) (by kernel_rfl))
set_option maxRecDepth 100000 in
theorem lifted (os : Os) (started : os.Started) (H : Type) (enc : TypeId × Value → H) :
    ReturnsInHanded {} Try.checked os 4 .any (Rows.fnExactKinSpec.pre6 enc Try.prog Try.f4 Rows.fnExactKinRow.domain false) (Rows.fnExactKinSpec.post enc Try.prog Try.f4 false true false false) := by
  refine returnsInHanded_of_change_sized (C := Try.checked) own started (by kernel_rfl) Try.func4
    (ChangeSpec.witness6 (enc := enc) (C := Try.checked) false ⟨#[], #[.slice none 0 0], []⟩ 8 (by kernel_rfl) (by kernel_rfl) (by kernel_rfl) (by kernel_rfl)) ?_
  intro W base args ds gs before hval0 hW hcnd hsz0 _
  have hval : ∀ (j : Nat) t v, Try.f4.params[j]? = some t → args[j]? = some v → Value.okWide Try.prog W .any base t v := hval0
  have hW' := hW
  obtain ⟨p, q, hA0, hV, rfl, hfz, hnd⟩ := hW
  have hA : DataW.TrodAll enc Try.prog W 0 (fun _ => true) true Try.f4.params.toList args.toList ds p := hA0
  rw [Try.params4] at hA hval
  obtain ⟨rfl, rfl⟩ := trodVars_none hV
  have hA1 : DataW.TrodAll enc Try.prog W 0 (fun _ => true) true [36] args.toList ds p := hA
  obtain ⟨hl, hlt, ps, hl2, hR, hwf⟩ := args_ok (L := [36, 59, 3]) (ts := [36]) (by kernel_rfl) (by decide) hA1 (fun j t v ht hv => hval j t v (by simpa using ht) (by simpa using hv))
  obtain ⟨n, hn⟩ := GFnExactKin.pure_law ps hl2 hwf
  have hd : ds.length = 1 := trodAll_len hA1
  obtain ⟨d0, rfl⟩ : ∃ d0, ds = [d0] := by
    match ds, hd with
    | [d0], _ => exact ⟨d0, rfl⟩
  have hc := law_calls (sg := GFnExactKin.sg) (Tb := compF Try.prog GFnExactKin.sg) (f := 4) (ts := [36]) (by kernel_rfl) orcs kept (fun _ _ h => h) (by decide) (by kernel_rfl) hl hl2 hR hn
  rw [show args.toList.toArray = args by simp] at hc
  refine hc.mono fun e W' ⟨he, bel⟩ => ?_
  subst he
  exact ⟨_, rfl, _, _, _, [], _, [], hW', trodAll_mk1 (shut_bool Try.underlying4 _), trodAll_below laidOut bel (by kernel_rfl) hA1 hlt, rfl, bel.frame _, fun h => by cases h⟩
theorem over : Rows.fnExactKinRow.holds Try.pinned (OpenSpec.ofChange Rows.fnExactKinSpec) :=
  OpenClaim.holds_of_wide 4 Try.f4 rfl rfl rfl rfl rfl rfl rfl ⟨rfl, rfl, rfl, rfl, rfl⟩ rfl rfl rfl rfl rfl (by kernel_rfl) Try.func4 (by kernel_rfl)
    (of_decide_eq_true (by kernel_rfl)) (by unfold Func.isWrapper; first | (rw [if_pos (by decide +kernel)]; kernel_rfl) | (rw [if_neg (by decide +kernel)]; exact ⟨rfl, rfl⟩))
    (fun os started H enc _ => lifted os started H enc)
theorem proved : Rows.FnExactKinSaid := over
#print axioms proved
end Go.Proofs.Ythmhgnnaihkjaaa.fnExactKin
namespace Go.Proofs.Ythmhgnnaihkjaaa
/-- The row, under a short name, for the claim. -/
theorem fnExactKin_holds : Rows.FnExactKinSaid := fnExactKin.proved
end Go.Proofs.Ythmhgnnaihkjaaa
