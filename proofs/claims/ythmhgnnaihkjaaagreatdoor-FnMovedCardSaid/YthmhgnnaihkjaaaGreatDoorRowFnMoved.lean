/- The card of the law FnMoved, out of its pure program: the row with its listed tables; Itoa (and Join) by the library's contracts. No conditions. -/
import Derived.Test.YthmhgnnaihkjaaaGreatDoorRows
import Derived.Test.YthmhgnnaihkjaaaGreatDoorCards
import Derived.Test.YthmhgnnaihkjaaaGreatDoorTie
import Derived.Test.YthmhgnnaihkjaaaGreatDoorPureFnMoved
import Derived.Test.YthmhgnnaihkjaaaGreatDoorRscZr
import Derived.Shelf.Lay
import Derived.Ground.NamesProg
import Derived.WalkKit
import Derived.ProofKit
import Derived.OpenShut
import Derived.ShutString
import Derived.ChangeOld
import Derived.Below
import Derived.SizedLaws
import Derived.LaidMore
import Derived.Stop.Joined
import Derived.SevenTiedAt
namespace Go.Proofs
open Go.Shelf
shelf_lay LaysM.n171 Nm 171 at Tryz as YthmhgnnaihkjaaaGreatDoor.fnMoved.laysItoa
shelf_lay Lays.n189 Nm 189 at Tryz as YthmhgnnaihkjaaaGreatDoor.fnMoved.laysSort
end Go.Proofs
namespace Go.Proofs.YthmhgnnaihkjaaaGreatDoor.fnMoved
open Go.ChangeShapes Go.WideShapes Go.ChangeAt
open Go.RowKit Go.Rsc
set_option linter.unusedVariables false
set_option linter.unusedSimpArgs false

theorem own : ownKnob Tryz.prog.godebug = none := by kernel_rfl
theorem laidOut : laidOutB Tryz.prog = true := by kernel_rfl
theorem orcs : Go.Rsc.Good Tryz.prog GFnMoved.sg (orcI GFnMoved.sg) := orc_good fun f s o hs ho az os h => by
  unfold GFnMoved.sg at hs
  split at hs <;> first
    | (cases hs; cases ho; done)
    | (cases hs; cases ho; exact itoa_good laysItoa (by kernel_rfl) h)
    | (cases hs; cases ho; exact sort_good laysSort (by kernel_rfl) h)
    | (cases hs; done)
theorem door_met (os : Os) (args : Array Value) : laidMetH Tryz.prog Rows.fnMovedRow.laid ((World.doorLaid Tryz.prog 400 os).forCall (fun _ _ => 0) ⟨#[], args, []⟩).memory :=
  laidMetH_of_parts3 (fuel := 8) (laidMet_of_run' 8 (by kernel_rfl) (by kernel_rfl)) (by kernel_rfl) (by kernel_rfl)
theorem gPow : Tryz.prog.globalNamed "internal/strconv.uint64pow10" = some 0 := by kernel_rfl
theorem tPow : (Tryz.prog.globals[0]?).map (·.type) = some 110 := by kernel_rfl
theorem of_laid {W : World} (h : laidMetH Tryz.prog Rows.fnMovedRow.laid W) : Lib.TabIs Tryz.prog W "internal/strconv.uint64pow10" .u64 Lib.pow10Tab := by
  rw [MakeChecks.laidMetH_plain _ _ _ (by kernel_rfl)] at h
  obtain ⟨ps, ⟨g0, t0, cs0, u0, v0, q0, hg0, ht0, hv0, hd0, ⟨g1, t1, cs1, u1, v1, q1, hg1, ht1, hv1, hd1, ⟨g2, t2, cs2, u2, v2, q2, hg2, ht2, hv2, hd2, _, _⟩, _⟩, _⟩, _⟩ := h
  obtain rfl := Option.some.inj (gPow.symm.trans hg2)
  obtain rfl := Option.some.inj (tPow.symm.trans ht2)
  have hd : DataW.trod (fun _ => ()) Tryz.prog W 0 (fun _ => true) false u2 110 cs2.toList = some (Lib.tabData .u64 Lib.pow10Tab, v2) := hd2
  have hc := Lib.cells_of_tab (n := 20) (e := 93) (by kernel_rfl) (by kernel_rfl) (by kernel_rfl) (by kernel_rfl) hd
  unfold Lib.TabIs
  rw [hv2, ← hc]
set_option maxRecDepth 100000 in
theorem lifted (os : Os) (started : os.Started) (H : Type) (enc : TypeId × Value → H) :
    ReturnsInHanded {} Tryz.checked os 3 .any (fun w args => (Rows.fnMovedSpec.pre enc Tryz.prog Tryz.f3 [] false w args ∧ laidMetH Tryz.prog Rows.fnMovedRow.laid w) ∧ sizedMet enc Tryz.prog Tryz.f3 (OpenSpec.ofChange Rows.fnMovedSpec) false w args)
      (Rows.fnMovedSpec.post enc Tryz.prog Tryz.f3 false true false false) := by
  refine returnsInHanded_of_change_and (C := Tryz.checked) (X := fun w _ => laidMetH Tryz.prog Rows.fnMovedRow.laid w) (fun _ _ _ hh h => h.of_heap hh) own started (by kernel_rfl) Tryz.func3
    (ChangeSpec.witness_shaped (enc := enc) (C := Tryz.checked) (os := os) (X := fun w _ => laidMetH Tryz.prog Rows.fnMovedRow.laid w) false (World.doorLaid Tryz.prog 400 os) #[.slice none 0 0] 8 rfl (World.shaped_of_RefB (by kernel_rfl) (by kernel_rfl)) (by kernel_rfl) (by kernel_rfl) (by kernel_rfl) (door_met os _)) ?_
  intro W base args ds gs before hval0 hW _ _ hL _
  have hval : ∀ (j : Nat) t v, Tryz.f3.params[j]? = some t → args[j]? = some v → Value.okWide Tryz.prog W .any base t v := hval0
  have hW' := hW
  obtain ⟨p, q, hA0, hV, rfl, hfz, hnd⟩ := hW
  have hA : DataW.TrodAll enc Tryz.prog W 0 (fun _ => true) true Tryz.f3.params.toList args.toList ds p := hA0
  rw [Tryz.params3] at hA hval
  obtain ⟨rfl, rfl⟩ := trodVars_none hV
  have hA1 : DataW.TrodAll enc Tryz.prog W 0 (fun _ => true) true [22] args.toList ds p := hA
  obtain ⟨hl, hlt, ps, hl2, hR, hwf⟩ := args_ok (L := [22, 5]) (ts := [22]) (by kernel_rfl) (by decide) hA1 (fun j t v ht hv => hval j t v (by simpa using ht) (by simpa using hv))
  obtain ⟨n, hn⟩ := GFnMoved.pure_law ps hl2 hwf
  have hd : ds.length = 1 := trodAll_len hA1
  obtain ⟨d0, rfl⟩ : ∃ d0, ds = [d0] := by
    match ds, hd with
    | [d0], _ => exact ⟨d0, rfl⟩
  have hc := law_calls (sg := GFnMoved.sg) (Tb := compF Tryz.prog GFnMoved.sg) (f := 3) (ts := [22]) (by kernel_rfl) orcs (kp_of fun _ _ => of_laid hL) (fun _ _ h => h) (by decide) (by kernel_rfl) hl hl2 hR hn
  rw [show args.toList.toArray = args by simp] at hc
  refine hc.mono fun e W' ⟨he, bel⟩ => ?_
  subst he
  exact ⟨_, rfl, _, _, _, [], _, [], hW', trodAll_mk1 (shut_bool Tryz.underlying4 _), trodAll_below laidOut bel (by kernel_rfl) hA1 hlt, rfl, bel.frame _, fun h => by cases h⟩
theorem over : Rows.fnMovedRow.holds Tryz.pinned (OpenSpec.ofChange Rows.fnMovedSpec) :=
  OpenClaim.holds_of_wide 3 Tryz.f3 rfl rfl rfl rfl rfl rfl rfl ⟨rfl, rfl, rfl, rfl, rfl⟩ rfl rfl rfl rfl rfl (by kernel_rfl) Tryz.func3 (by kernel_rfl)
    (of_decide_eq_true (by kernel_rfl)) (by unfold Func.isWrapper; first | (rw [if_pos (by decide +kernel)]; kernel_rfl) | (rw [if_neg (by decide +kernel)]; exact ⟨rfl, rfl⟩))
    (fun os started H enc _ => lifted os started H enc)
theorem proved : Rows.FnMovedSaid := over
theorem card_holds : Rows.FnMovedCardSaid :=
  Claim7.holds_tied_plain_at .later [] [.data, .data, .data] true (true, "664c839f4435f05a8e665d3dbbdc0ea81ae5b4b9703fbabcebed6654dd9985b7") false
    proved (fun _ h => by cases h) (by kernel_rfl) (fun _ h => by cases h) fnMoved_row_tie rfl ⟨rfl, rfl⟩ (by kernel_rfl) rfl
    (fun f fn hf hfn => by
      obtain rfl : f = 3 := Option.some.inj ((show Tryz.prog.funcNamed "loop.example/g00396/laws.FnMoved" = some 3 by kernel_rfl).symm.trans hf) |>.symm
      obtain rfl : fn = Tryz.f3 := (Option.some.inj (Tryz.func3.symm.trans hfn)).symm
      exact ⟨by kernel_rfl, fun j t ht => by
        rw [Tryz.params3] at ht
        have hm : t ∈ [22] := by simpa using Array.mem_of_getElem? ht
        have hall : ([22].all fun u => !Tryz.prog.wantsStandIn u) = true := by kernel_rfl
        exact (show Tryz.prog.wantsStandIn t = false by simpa using List.all_eq_true.1 hall t hm)⟩)
    (by kernel_rfl)
#print axioms card_holds
end Go.Proofs.YthmhgnnaihkjaaaGreatDoor.fnMoved
namespace Go.Proofs.YthmhgnnaihkjaaaGreatDoor
/-- The card, under a short name, for the claim. -/
theorem fnMoved_holds : Rows.FnMovedCardSaid := fnMoved.card_holds
end Go.Proofs.YthmhgnnaihkjaaaGreatDoor
