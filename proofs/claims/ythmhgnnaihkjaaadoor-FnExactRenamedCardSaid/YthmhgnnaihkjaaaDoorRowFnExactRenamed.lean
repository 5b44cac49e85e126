/- The card of the law FnExactRenamed, out of its pure program: the row with its listed tables; Itoa (and Join) by the library's contracts. No conditions. -/
import Derived.Test.YthmhgnnaihkjaaaDoorRows
import Derived.Test.YthmhgnnaihkjaaaDoorCards
import Derived.Test.YthmhgnnaihkjaaaDoorTie
import Derived.Test.YthmhgnnaihkjaaaDoorPureFnExactRenamed
import Derived.Test.YthmhgnnaihkjaaaDoorRscZr
import Derived.Shelf.Lay
import Derived.Ground.NamesProg
import Derived.WalkKit
import Derived.ProofKit
import Derived.OpenShut
import Derived.ShutString
import Derived.ChangeOld
import Derived.Below
import Derived.SizedLaws
import Derived.LaidMore
import Derived.Stop.Joined
import Derived.SevenTiedAt
import Derived.LaidLaws
namespace Go.Proofs
open Go.Shelf
shelf_lay LaysM.n171 Nm 171 at Tryd as YthmhgnnaihkjaaaDoor.fnExactRenamed.laysItoa
shelf_lay LaysC.n172 Nm 172 at Tryd as YthmhgnnaihkjaaaDoor.fnExactRenamed.laysAtoi
shelf_lay Lays.n137 Nm 137 at Tryd as YthmhgnnaihkjaaaDoor.fnExactRenamed.laysIndex
end Go.Proofs
namespace Go.Proofs.YthmhgnnaihkjaaaDoor.fnExactRenamed
open Go.ChangeShapes Go.WideShapes Go.ChangeAt
open Go.RowKit Go.Rsc
set_option linter.unusedVariables false
set_option linter.unusedSimpArgs false

theorem own : ownKnob Tryd.prog.godebug = none := by kernel_rfl
theorem laidOut : laidOutB Tryd.prog = true := by kernel_rfl
theorem orcs : Go.Rsc.Good Tryd.prog GFnExactRenamed.sg (orcI GFnExactRenamed.sg) := orc_good fun f s o hs ho az os h => by
  unfold GFnExactRenamed.sg at hs
  split at hs <;> first
    | (cases hs; cases ho; done)
    | (cases hs; cases ho; exact itoa_good laysItoa (by kernel_rfl) h)
    | (cases hs; cases ho; exact atoi_good laysAtoi (by kernel_rfl) (by kernel_rfl) h)
    | (cases hs; cases ho; exact index_good laysIndex h)
    | (cases hs; done)
theorem door_met (os : Os) (args : Array Value) : laidMetH Tryd.prog Rows.fnExactRenamedRow.laid ((World.doorLaid Tryd.prog 400 os).forCall (fun _ _ => 0) ⟨#[], args, []⟩).memory :=
  laidMetH_of_parts3 (fuel := 8) (laidMet_of_run' 8 (by kernel_rfl) (by kernel_rfl)) (by kernel_rfl) (by kernel_rfl)
theorem gPow : Tryd.prog.globalNamed "internal/strconv.uint64pow10" = some 1 := by kernel_rfl
theorem tPow : (Tryd.prog.globals[1]?).map (·.type) = some 118 := by kernel_rfl
theorem of_laid {W : World} (h : laidMetH Tryd.prog Rows.fnExactRenamedRow.laid W) : Lib.TabIs Tryd.prog W "internal/strconv.uint64pow10" .u64 Lib.pow10Tab := by
  rw [MakeChecks.laidMetH_plain _ _ _ (by kernel_rfl)] at h
  obtain ⟨ps, ⟨g0, t0, cs0, u0, v0, q0, hg0, ht0, hv0, hd0, ⟨g1, t1, cs1, u1, v1, q1, hg1, ht1, hv1, hd1, ⟨g2, t2, cs2, u2, v2, q2, hg2, ht2, hv2, hd2, ⟨g3, t3, cs3, u3, v3, q3, hg3, ht3, hv3, hd3, ⟨g4, t4, cs4, u4, v4, q4, hg4, ht4, hv4, hd4, _, _⟩, _⟩, _⟩, _⟩, _⟩, _⟩ := h
  obtain rfl := Option.some.inj (gPow.symm.trans hg2)
  obtain rfl := Option.some.inj (tPow.symm.trans ht2)
  have hd : DataW.trod (fun _ => ()) Tryd.prog W 0 (fun _ => true) false u2 118 cs2.toList = some (Lib.tabData .u64 Lib.pow10Tab, v2) := hd2
  have hc := Lib.cells_of_tab (n := 20) (e := 106) (by kernel_rfl) (by kernel_rfl) (by kernel_rfl) (by kernel_rfl) hd
  unfold Lib.TabIs
  rw [hv2, ← hc]
theorem errs_of_laid {W : World} (h : laidMetH Tryd.prog Rows.fnExactRenamedRow.laid W) : ∀ nm g, (nm = "strconv.ErrSyntax" ∨ nm = "strconv.ErrRange") → Tryd.prog.globalNamed nm = some g → ∃ t p, W.var? Tryd.prog nm = some #[.iface t p] := by
  rw [MakeChecks.laidMetH_plain _ _ _ (by kernel_rfl)] at h
  obtain ⟨ps, ⟨g0, t0, cs0, u0, v0, q0, hg0, ht0, hv0, hd0, ⟨g1, t1, cs1, u1, v1, q1, hg1, ht1, hv1, hd1, ⟨g2, t2, cs2, u2, v2, q2, hg2, ht2, hv2, hd2, ⟨g3, t3, cs3, u3, v3, q3, hg3, ht3, hv3, hd3, ⟨g4, t4, cs4, u4, v4, q4, hg4, ht4, hv4, hd4, _, _⟩, _⟩, _⟩, _⟩, _⟩, _⟩ := h
  rintro nm g (rfl | rfl) hg
  · obtain rfl := Option.some.inj ((show Tryd.prog.globalNamed "strconv.ErrSyntax" = some 2 by kernel_rfl).symm.trans hg4)
    obtain rfl := Option.some.inj ((show (Tryd.prog.globals[2]?).map (·.type) = some 99 by kernel_rfl).symm.trans ht4)
    obtain ⟨f1, u, v, hc, _, _⟩ := iface_of_trod (show Tryd.prog.underlying 99 = some (.interface #[("Error", 136)]) by kernel_rfl) hd4
    exact ⟨u, v, hv4.trans (congrArg some (Array.ext' hc))⟩
  · obtain rfl := Option.some.inj ((show Tryd.prog.globalNamed "strconv.ErrRange" = some 3 by kernel_rfl).symm.trans hg3)
    obtain rfl := Option.some.inj ((show (Tryd.prog.globals[3]?).map (·.type) = some 99 by kernel_rfl).symm.trans ht3)
    obtain ⟨f1, u, v, hc, _, _⟩ := iface_of_trod (show Tryd.prog.underlying 99 = some (.interface #[("Error", 136)]) by kernel_rfl) hd3
    exact ⟨u, v, hv3.trans (congrArg some (Array.ext' hc))⟩
set_option maxRecDepth 100000 in
theorem lifted (os : Os) (started : os.Started) (H : Type) (enc : TypeId × Value → H) :
    ReturnsInHanded {} Tryd.checked os 6 .any (fun w args => (Rows.fnExactRenamedSpec.pre enc Tryd.prog Tryd.f6 [] false w args ∧ laidMetH Tryd.prog Rows.fnExactRenamedRow.laid w) ∧ sizedMet enc Tryd.prog Tryd.f6 (OpenSpec.ofChange Rows.fnExactRenamedSpec) false w args)
      (Rows.fnExactRenamedSpec.post enc Tryd.prog Tryd.f6 false true false false) := by
  refine returnsInHanded_of_change_and (C := Tryd.checked) (X := fun w _ => laidMetH Tryd.prog Rows.fnExactRenamedRow.laid w) (fun _ _ _ hh h => h.of_heap hh) own started (by kernel_rfl) Tryd.func6
    (ChangeSpec.witness_shaped (enc := enc) (C := Tryd.checked) (os := os) (X := fun w _ => laidMetH Tryd.prog Rows.fnExactRenamedRow.laid w) false (World.doorLaid Tryd.prog 400 os) #[.string ⟨#[]⟩, .slice none 0 0, .string ⟨#[]⟩] 8 rfl (World.shaped_of_RefB (by kernel_rfl) (by kernel_rfl)) (by kernel_rfl) (by kernel_rfl) (by kernel_rfl) (door_met os _)) ?_
  intro W base args ds gs before hval0 hW _ _ hL _
  have hval : ∀ (j : Nat) t v, Tryd.f6.params[j]? = some t → args[j]? = some v → Value.okWide Tryd.prog W .any base t v := hval0
  have hW' := hW
  obtain ⟨p, q, hA0, hV, rfl, hfz, hnd⟩ := hW
  have hA : DataW.TrodAll enc Tryd.prog W 0 (fun _ => true) true Tryd.f6.params.toList args.toList ds p := hA0
  rw [Tryd.params6] at hA hval
  obtain ⟨rfl, rfl⟩ := trodVars_none hV
  have hA1 : DataW.TrodAll enc Tryd.prog W 0 (fun _ => true) true [9, 33, 9] args.toList ds p := hA
  obtain ⟨hl, hlt, ps, hl2, hR, hwf⟩ := args_ok (L := [9, 33, 3]) (ts := [9, 33, 9]) (by kernel_rfl) (by decide) hA1 (fun j t v ht hv => hval j t v (by simpa using ht) (by simpa using hv))
  obtain ⟨n, hn⟩ := GFnExactRenamed.pure_law ps hl2 hwf
  have hd : ds.length = 3 := trodAll_len hA1
  obtain ⟨d0, d1, d2, rfl⟩ : ∃ d0 d1 d2, ds = [d0, d1, d2] := by
    match ds, hd with
    | [d0, d1, d2], _ => exact ⟨d0, d1, d2, rfl⟩
  have hc := law_calls (sg := GFnExactRenamed.sg) (Tb := compF Tryd.prog GFnExactRenamed.sg) (f := 6) (ts := [9, 33, 9]) (by kernel_rfl) orcs (kp_of (fun _ _ => of_laid hL) (errs_of_laid hL)) (fun _ _ h => h) (by decide) (by kernel_rfl) hl hl2 hR hn
  rw [show args.toList.toArray = args by simp] at hc
  refine hc.mono fun e W' ⟨he, bel⟩ => ?_
  subst he
  exact ⟨_, rfl, _, _, _, [], _, [], hW', trodAll_mk1 (shut_bool Tryd.underlying4 _), trodAll_below laidOut bel (by kernel_rfl) hA1 hlt, rfl, bel.frame _, fun h => by cases h⟩
theorem over : Rows.fnExactRenamedRow.holds Tryd.pinned (OpenSpec.ofChange Rows.fnExactRenamedSpec) :=
  OpenClaim.holds_of_wide 6 Tryd.f6 rfl rfl rfl rfl rfl rfl rfl ⟨rfl, rfl, rfl, rfl, rfl⟩ rfl rfl rfl rfl rfl (by kernel_rfl) Tryd.func6 (by kernel_rfl)
    (of_decide_eq_true (by kernel_rfl)) (by unfold Func.isWrapper; first | (rw [if_pos (by decide +kernel)]; kernel_rfl) | (rw [if_neg (by decide +kernel)]; exact ⟨rfl, rfl⟩))
    (fun os started H enc _ => lifted os started H enc)
theorem proved : Rows.FnExactRenamedSaid := over
theorem card_holds : Rows.FnExactRenamedCardSaid :=
  Claim7.holds_tied_plain_at .later [] [.data, .data, .data, .sentinel, .sentinel] true (true, "e30fd4eb899d5cf8bc80612450d591878a85cf36d22c01bee05a368ba38487a3") true
    proved (fun _ h => by cases h) (by kernel_rfl) (fun _ h => by cases h) fnExactRenamed_row_tie rfl ⟨rfl, rfl⟩ (by kernel_rfl) rfl
    (fun f fn hf hfn => by
      obtain rfl : f = 6 := Option.some.inj ((show Tryd.prog.funcNamed "loop.example/g00396/laws.FnExactRenamed" = some 6 by kernel_rfl).symm.trans hf) |>.symm
      obtain rfl : fn = Tryd.f6 := (Option.some.inj (Tryd.func6.symm.trans hfn)).symm
      exact ⟨by kernel_rfl, fun j t ht => by
        rw [Tryd.params6] at ht
        have hm : t ∈ [9, 33, 9] := by simpa using Array.mem_of_getElem? ht
        have hall : ([9, 33, 9].all fun u => !Tryd.prog.wantsStandIn u) = true := by kernel_rfl
        exact (show Tryd.prog.wantsStandIn t = false by simpa using List.all_eq_true.1 hall t hm)⟩)
    (by kernel_rfl)
#print axioms card_holds
end Go.Proofs.YthmhgnnaihkjaaaDoor.fnExactRenamed
namespace Go.Proofs.YthmhgnnaihkjaaaDoor
/-- The card, under a short name, for the claim. -/
theorem fnExactRenamed_holds : Rows.FnExactRenamedCardSaid := fnExactRenamed.card_holds
end Go.Proofs.YthmhgnnaihkjaaaDoor
