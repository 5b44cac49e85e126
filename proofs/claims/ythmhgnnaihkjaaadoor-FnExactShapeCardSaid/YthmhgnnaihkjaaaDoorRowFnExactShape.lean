/- The card of the law FnExactShape, out of its pure program: the row with its listed tables; Itoa (and Join) by the library's contracts. No conditions. -/
import Derived.Test.YthmhgnnaihkjaaaDoorRows
import Derived.Test.YthmhgnnaihkjaaaDoorCards
import Derived.Test.YthmhgnnaihkjaaaDoorTie
import Derived.Test.YthmhgnnaihkjaaaDoorPureFnExactShape
import Derived.Test.YthmhgnnaihkjaaaDoorRscZr
import Derived.Shelf.Lay
import Derived.Ground.NamesProg
import Derived.WalkKit
import Derived.ProofKit
import Derived.OpenShut
import Derived.ShutString
import Derived.ChangeOld
import Derived.Below
import Derived.SizedLaws
import Derived.LaidMore
import Derived.Stop.Joined
import Derived.SevenTiedAt
namespace Go.Proofs
open Go.Shelf
shelf_lay LaysM.n171 Nm 171 at Tryd as YthmhgnnaihkjaaaDoor.fnExactShape.laysItoa
end Go.Proofs
namespace Go.Proofs.YthmhgnnaihkjaaaDoor.fnExactShape
open Go.ChangeShapes Go.WideShapes Go.ChangeAt
open Go.RowKit Go.Rsc
set_option linter.unusedVariables false
set_option linter.unusedSimpArgs false

theorem own : ownKnob Tryd.prog.godebug = none := by kernel_rfl
theorem laidOut : laidOutB Tryd.prog = true := by kernel_rfl
theorem orcs : Go.Rsc.Good Tryd.prog GFnExactShape.sg (orcI GFnExactShape.sg) := orc_good fun f s o hs ho az os h => by
  unfold GFnExactShape.sg at hs
  split at hs <;> first
    | (cases hs; cases ho; done)
    | (cases hs; cases ho; exact itoa_good laysItoa (by kernel_rfl) h)
    | (cases hs; done)
theorem door_met (os : Os) (args : Array Value) : laidMetH Tryd.prog Rows.fnExactShapeRow.laid ((World.doorLaid Tryd.prog 400 os).forCall (fun _ _ => 0) ⟨#[], args, []⟩).memory :=
  laidMetH_of_parts3 (fuel := 8) (laidMet_of_run' 8 (by kernel_rfl) (by kernel_rfl)) (by kernel_rfl) (by kernel_rfl)
theorem gPow : Tryd.prog.globalNamed "internal/strconv.uint64pow10" = some 1 := by kernel_rfl
theorem tPow : (Tryd.prog.globals[1]?).map (·.type) = some 118 := by kernel_rfl
theorem of_laid {W : World} (h : laidMetH Tryd.prog Rows.fnExactShapeRow.laid W) : Lib.TabIs Tryd.prog W "internal/strconv.uint64pow10" .u64 Lib.pow10Tab := by
  rw [MakeChecks.laidMetH_plain _ _ _ (by kernel_rfl)] at h
  obtain ⟨ps, ⟨g0, t0, cs0, u0, v0, q0, hg0, ht0, hv0, hd0, ⟨g1, t1, cs1, u1, v1, q1, hg1, ht1, hv1, hd1, ⟨g2, t2, cs2, u2, v2, q2, hg2, ht2, hv2, hd2, _, _⟩, _⟩, _⟩, _⟩ := h
  obtain rfl := Option.some.inj (gPow.symm.trans hg2)
  obtain rfl := Option.some.inj (tPow.symm.trans ht2)
  have hd : DataW.trod (fun _ => ()) Tryd.prog W 0 (fun _ => true) false u2 118 cs2.toList = some (Lib.tabData .u64 Lib.pow10Tab, v2) := hd2
  have hc := Lib.cells_of_tab (n := 20) (e := 106) (by kernel_rfl) (by kernel_rfl) (by kernel_rfl) (by kernel_rfl) hd
  unfold Lib.TabIs
  rw [hv2, ← hc]
set_option maxRecDepth 100000 in
theorem lifted (os : Os) (started : os.Started) (H : Type) (enc : TypeId × Value → H) :
    ReturnsInHanded {} Tryd.checked os 4 .any (fun w args => (Rows.fnExactShapeSpec.pre enc Tryd.prog Tryd.f4 [] false w args ∧ laidMetH Tryd.prog Rows.fnExactShapeRow.laid w) ∧ sizedMet enc Tryd.prog Tryd.f4 (OpenSpec.ofChange Rows.fnExactShapeSpec) false w args)
      (Rows.fnExactShapeSpec.post enc Tryd.prog Tryd.f4 false true false false) := by
  refine returnsInHanded_of_change_and (C := Tryd.checked) (X := fun w _ => laidMetH Tryd.prog Rows.fnExactShapeRow.laid w) (fun _ _ _ hh h => h.of_heap hh) own started (by kernel_rfl) Tryd.func4
    (ChangeSpec.witness_shaped (enc := enc) (C := Tryd.checked) (os := os) (X := fun w _ => laidMetH Tryd.prog Rows.fnExactShapeRow.laid w) false (World.doorLaid Tryd.prog 400 os) #[.agg #[.slice none 0 0, .int .i64 0, .int .i64 0, .int .i64 0], .slice none 0 0] 8 rfl (World.shaped_of_RefB (by kernel_rfl) (by kernel_rfl)) (by kernel_rfl) (by kernel_rfl) (by kernel_rfl) (door_met os _)) ?_
  intro W base args ds gs before hval0 hW _ _ hL _
  have hval : ∀ (j : Nat) t v, Tryd.f4.params[j]? = some t → args[j]? = some v → Value.okWide Tryd.prog W .any base t v := hval0
  have hW' := hW
  obtain ⟨p, q, hA0, hV, rfl, hfz, hnd⟩ := hW
  have hA : DataW.TrodAll enc Tryd.prog W 0 (fun _ => true) true Tryd.f4.params.toList args.toList ds p := hA0
  rw [Tryd.params4] at hA hval
  obtain ⟨rfl, rfl⟩ := trodVars_none hV
  have hA1 : DataW.TrodAll enc Tryd.prog W 0 (fun _ => true) true [35, 33] args.toList ds p := hA
  obtain ⟨hl, hlt, ps, hl2, hR, hwf⟩ := args_ok (L := [35, 33, 3]) (ts := [35, 33]) (by kernel_rfl) (by decide) hA1 (fun j t v ht hv => hval j t v (by simpa using ht) (by simpa using hv))
  obtain ⟨n, hn⟩ := GFnExactShape.pure_law ps hl2 hwf
  have hd : ds.length = 2 := trodAll_len hA1
  obtain ⟨d0, d1, rfl⟩ : ∃ d0 d1, ds = [d0, d1] := by
    match ds, hd with
    | [d0, d1], _ => exact ⟨d0, d1, rfl⟩
  have hc := law_calls (sg := GFnExactShape.sg) (Tb := compF Tryd.prog GFnExactShape.sg) (f := 4) (ts := [35, 33]) (by kernel_rfl) orcs (kp_of fun _ _ => of_laid hL) (fun _ _ h => h) (by decide) (by kernel_rfl) hl hl2 hR hn
  rw [show args.toList.toArray = args by simp] at hc
  refine hc.mono fun e W' ⟨he, bel⟩ => ?_
  subst he
  exact ⟨_, rfl, _, _, _, [], _, [], hW', trodAll_mk1 (shut_bool Tryd.underlying4 _), trodAll_below laidOut bel (by kernel_rfl) hA1 hlt, rfl, bel.frame _, fun h => by cases h⟩
theorem over : Rows.fnExactShapeRow.holds Tryd.pinned (OpenSpec.ofChange Rows.fnExactShapeSpec) :=
  OpenClaim.holds_of_wide 4 Tryd.f4 rfl rfl rfl rfl rfl rfl rfl ⟨rfl, rfl, rfl, rfl, rfl⟩ rfl rfl rfl rfl rfl (by kernel_rfl) Tryd.func4 (by kernel_rfl)
    (of_decide_eq_true (by kernel_rfl)) (by unfold Func.isWrapper; first | (rw [if_pos (by decide +kernel)]; kernel_rfl) | (rw [if_neg (by decide +kernel)]; exact ⟨rfl, rfl⟩))
    (fun os started H enc _ => lifted os started H enc)
theorem proved : Rows.FnExactShapeSaid := over
theorem card_holds : Rows.FnExactShapeCardSaid :=
  Claim7.holds_tied_plain_at .later [] [.data, .data, .data] true (true, "e30fd4eb899d5cf8bc80612450d591878a85cf36d22c01bee05a368ba38487a3") true
    proved (fun _ h => by cases h) (by kernel_rfl) (fun _ h => by cases h) fnExactShape_row_tie rfl ⟨rfl, rfl⟩ (by kernel_rfl) rfl
    (fun f fn hf hfn => by
      obtain rfl : f = 4 := Option.some.inj ((show Tryd.prog.funcNamed "loop.example/g00396/laws.FnExactShape" = some 4 by kernel_rfl).symm.trans hf) |>.symm
      obtain rfl : fn = Tryd.f4 := (Option.some.inj (Tryd.func4.symm.trans hfn)).symm
      exact ⟨by kernel_rfl, fun j t ht => by
        rw [Tryd.params4] at ht
        have hm : t ∈ [35, 33] := by simpa using Array.mem_of_getElem? ht
        have hall : ([35, 33].all fun u => !Tryd.prog.wantsStandIn u) = true := by kernel_rfl
        exact (show Tryd.prog.wantsStandIn t = false by simpa using List.all_eq_true.1 hall t hm)⟩)
    (by kernel_rfl)
#print axioms card_holds
end Go.Proofs.YthmhgnnaihkjaaaDoor.fnExactShape
namespace Go.Proofs.YthmhgnnaihkjaaaDoor
/-- The card, under a short name, for the claim. -/
theorem fnExactShape_holds : Rows.FnExactShapeCardSaid := fnExactShape.card_holds
end Go.Proofs.YthmhgnnaihkjaaaDoor
