-- PRINTED BY print.sh 35421559b90ae4d0a3588c463048766b98c2df88dd9212a6774a882060cdf62d: not written by this session
import Derived.Test.YtmoaonpggckbiaaPFnExactHeapNewx0
import Derived.Test.YtmoaonpggckbiaaPFnExactHeapNewx1
namespace Go.Proofs.Ytmoaonpggckbiaa.PFnExactHeapNew
open Go.RowKit Go.Proofs.YtmoaonpggckbiaaW.PrintWords Go.Proofs.YtmoaonpggckbiaaW.PrintLast Go.Proofs.YtmoaonpggckbiaaW.PrintMore
attribute [local go_sem] max2_int min2_int max_two min_two max_three min_three max_four min_four   -- for this text's walks alone
set_option linter.unusedVariables false
set_option linter.unusedSimpArgs false

/-! ### laws_FnExactHeapNew: function 11 -/
mutual
def laws_FnExactHeapNew.j0 : Nat → Int → Bool → Bool → List Int → Int → Int → Int → List Int → Int → Int → Int → Option (Bool)
  | 0, _, _, _, _, _, _, _, _, _, _, _ => none
  | k + 1, x0, x4, x29, x131000, x131001, x131002, x131003, x139000, x139001, x139002, x139003 => if x29 = true then (some false) else ((laws_markHeap.f k x139000 x139001 x139002 x139003 1).bind fun bt140 => ((laws_heldHeap.f k bt140.2 x139001 x139002 x139003 1).bind fun t142 => (if t142 < 0 then (some false) else (if t142 = bt140.1 then ((impl_HeapNew.f x0).bind fun bt143 => ((laws_eqHeap.f k bt143.1 bt143.2.1 bt143.2.2.1 bt143.2.2.2.1 x131000 x131001 x131002 x131003).bind fun t151 => (if t151 = true then (laws_FnExactHeapNew.j1 k bt140.1 (bt143.2.2.2.2 != x4) bt140.2 x139001 x139002 x139003) else (laws_FnExactHeapNew.j1 k bt140.1 true bt140.2 x139001 x139002 x139003)))) else (some false)))))
def laws_FnExactHeapNew.j1 : Nat → Int → Bool → List Int → Int → Int → Int → Option (Bool)
  | 0, _, _, _, _, _, _ => none
  | k + 1, x7, x54, x139000, x139001, x139002, x139003 => if x54 = true then (some false) else ((laws_heldHeap.f k x139000 x139001 x139002 x139003 1).bind fun t152 => (if t152 < 0 then (some false) else (if t152 = x7 then (some true) else (some false))))
end
def laws_FnExactHeapNew.f (k : Nat) (a0 : Int) : Option (Bool) := (spec_HeapNew.f a0).bind fun bt123 => ((impl_HeapNew.f a0).bind fun bt131 => ((laws_eqHeap.f k bt131.1 bt131.2.1 bt131.2.2.1 bt131.2.2.2.1 bt123.1 bt123.2.1 bt123.2.2.1 bt123.2.2.2.1).bind fun t139 => (if t139 = true then (laws_FnExactHeapNew.j0 k a0 bt123.2.2.2.2 (bt131.2.2.2.2 != bt123.2.2.2.2) bt123.1 bt123.2.1 bt123.2.2.1 bt123.2.2.2.1 bt131.1 bt131.2.1 bt131.2.2.1 bt131.2.2.2.1) else (laws_FnExactHeapNew.j0 k a0 bt123.2.2.2.2 true bt123.1 bt123.2.1 bt123.2.2.1 bt123.2.2.2.1 bt131.1 bt131.2.1 bt131.2.2.1 bt131.2.2.2.1))))
theorem laws_FnExactHeapNew.mono_l : ∀ k, (∀ y0 y1 y2 y3 y4 y5 y6 y7 y8 y9 y10, LeO (laws_FnExactHeapNew.j0 k y0 y1 y2 y3 y4 y5 y6 y7 y8 y9 y10) (laws_FnExactHeapNew.j0 (k + 1) y0 y1 y2 y3 y4 y5 y6 y7 y8 y9 y10)) ∧ (∀ y0 y1 y2 y3 y4 y5, LeO (laws_FnExactHeapNew.j1 k y0 y1 y2 y3 y4 y5) (laws_FnExactHeapNew.j1 (k + 1) y0 y1 y2 y3 y4 y5))
  | 0 => ⟨fun _ _ _ _ _ _ _ _ _ _ _ r h => by simp [laws_FnExactHeapNew.j0] at h, fun _ _ _ _ _ _ r h => by simp [laws_FnExactHeapNew.j1] at h⟩
  | k + 1 => by
    obtain ⟨ih0, ih1⟩ := laws_FnExactHeapNew.mono_l k
    refine ⟨?_, ?_⟩
    · intro y0 y1 y2 y3 y4 y5 y6 y7 y8 y9 y10
      unfold laws_FnExactHeapNew.j0
      repeat' first
      | (with_reducible exact ih0 _ _ _ _ _ _ _ _ _ _ _)
      | (with_reducible exact ih1 _ _ _ _ _ _)
      | (with_reducible exact laws_eqHeap.mono _ _ _ _ _ _ _ _ _)
      | (with_reducible exact laws_heldHeap.mono _ _ _ _ _ _)
      | (with_reducible exact laws_markHeap.mono _ _ _ _ _ _)
      | (with_reducible exact LeO.refl _)
      | (with_reducible exact LeO.none _)
      | (with_reducible refine LeO.ite ?_ ?_)
      | (with_reducible refine LeO.bind ?_ (fun _ => ?_))
      | exact ih0 _ _ _ _ _ _ _ _ _ _ _
      | exact ih1 _ _ _ _ _ _
      | exact laws_eqHeap.mono _ _ _ _ _ _ _ _ _
      | exact laws_heldHeap.mono _ _ _ _ _ _
      | exact laws_markHeap.mono _ _ _ _ _ _
      | exact LeO.none _
      | refine LeO.ite ?_ ?_
      | refine LeO.bind ?_ (fun _ => ?_)
    · intro y0 y1 y2 y3 y4 y5
      unfold laws_FnExactHeapNew.j1
      repeat' first
      | (with_reducible exact ih0 _ _ _ _ _ _ _ _ _ _ _)
      | (with_reducible exact ih1 _ _ _ _ _ _)
      | (with_reducible exact laws_eqHeap.mono _ _ _ _ _ _ _ _ _)
      | (with_reducible exact laws_heldHeap.mono _ _ _ _ _ _)
      | (with_reducible exact laws_markHeap.mono _ _ _ _ _ _)
      | (with_reducible exact LeO.refl _)
      | (with_reducible exact LeO.none _)
      | (with_reducible refine LeO.ite ?_ ?_)
      | (with_reducible refine LeO.bind ?_ (fun _ => ?_))
      | exact ih0 _ _ _ _ _ _ _ _ _ _ _
      | exact ih1 _ _ _ _ _ _
      | exact laws_eqHeap.mono _ _ _ _ _ _ _ _ _
      | exact laws_heldHeap.mono _ _ _ _ _ _
      | exact laws_markHeap.mono _ _ _ _ _ _
      | exact LeO.none _
      | refine LeO.ite ?_ ?_
      | refine LeO.bind ?_ (fun _ => ?_)
theorem laws_FnExactHeapNew.mono : ∀ a0 k, LeO (laws_FnExactHeapNew.f k a0) (laws_FnExactHeapNew.f (k + 1) a0) := by
  intro a0 k
  obtain ⟨ih0, ih1⟩ := laws_FnExactHeapNew.mono_l k
  unfold laws_FnExactHeapNew.f
  repeat' first
      | (with_reducible exact ih0 _ _ _ _ _ _ _ _ _ _ _)
      | (with_reducible exact ih1 _ _ _ _ _ _)
      | (with_reducible exact laws_eqHeap.mono _ _ _ _ _ _ _ _ _)
      | (with_reducible exact laws_heldHeap.mono _ _ _ _ _ _)
      | (with_reducible exact laws_markHeap.mono _ _ _ _ _ _)
      | (with_reducible exact LeO.refl _)
      | (with_reducible exact LeO.none _)
      | (with_reducible refine LeO.ite ?_ ?_)
      | (with_reducible refine LeO.bind ?_ (fun _ => ?_))
      | exact ih0 _ _ _ _ _ _ _ _ _ _ _
      | exact ih1 _ _ _ _ _ _
      | exact laws_eqHeap.mono _ _ _ _ _ _ _ _ _
      | exact laws_heldHeap.mono _ _ _ _ _ _
      | exact laws_markHeap.mono _ _ _ _ _ _
      | exact LeO.none _
      | refine LeO.ite ?_ ?_
      | refine LeO.bind ?_ (fun _ => ?_)
set_option maxHeartbeats 8000000 in
set_option maxRecDepth 100000 in
theorem laws_FnExactHeapNew.calls (k : Nat) (a0 : Int) (r : Bool) (w : World) (h : laws_FnExactHeapNew.f k a0 = some r) :
    Calls Try.prog 11 #[.int .i64 a0] w fun e w' => e = .returned (.bool r) ∧ Below w.heap.size w w' := by
  have hu41 := Try.underlying41
  have HB := Aside0.mk (Below.refl w.heap.size w)
  have H : ((spec_HeapNew.f a0).bind fun bt123 => ((impl_HeapNew.f a0).bind fun bt131 => ((laws_eqHeap.f k bt131.1 bt131.2.1 bt131.2.2.1 bt131.2.2.2.1 bt123.1 bt123.2.1 bt123.2.2.1 bt123.2.2.2.1).bind fun t139 => (if t139 = true then (laws_FnExactHeapNew.j0 k a0 bt123.2.2.2.2 (bt131.2.2.2.2 != bt123.2.2.2.2) bt123.1 bt123.2.1 bt123.2.2.1 bt123.2.2.2.1 bt131.1 bt131.2.1 bt131.2.2.1 bt131.2.2.2.1) else (laws_FnExactHeapNew.j0 k a0 bt123.2.2.2.2 true bt123.1 bt123.2.1 bt123.2.2.1 bt123.2.2.2.1 bt131.1 bt131.2.1 bt131.2.2.1 bt131.2.2.2.1))))) = some r := h
  clear h
  replace H := Option.bind_eq_some_iff.mp H
  obtain ⟨⟨t123, t126, t127, t128, t129⟩, A20, H⟩ := H
  replace H : ((impl_HeapNew.f a0).bind fun bt131 => ((laws_eqHeap.f k bt131.1 bt131.2.1 bt131.2.2.1 bt131.2.2.2.1 t123 t126 t127 t128).bind fun t139 => (if t139 = true then (laws_FnExactHeapNew.j0 k a0 t129 (bt131.2.2.2.2 != t129) t123 t126 t127 t128 bt131.1 bt131.2.1 bt131.2.2.1 bt131.2.2.2.1) else (laws_FnExactHeapNew.j0 k a0 t129 true t123 t126 t127 t128 bt131.1 bt131.2.1 bt131.2.2.1 bt131.2.2.2.1)))) = some r := H
  have A2 := Aside0.mk A20
  clear A20
  replace H := Option.bind_eq_some_iff.mp H
  obtain ⟨⟨t131, t134, t135, t136, t137⟩, A30, H⟩ := H
  replace H : ((laws_eqHeap.f k t131 t134 t135 t136 t123 t126 t127 t128).bind fun t139 => (if t139 = true then (laws_FnExactHeapNew.j0 k a0 t129 (t137 != t129) t123 t126 t127 t128 t131 t134 t135 t136) else (laws_FnExactHeapNew.j0 k a0 t129 true t123 t126 t127 t128 t131 t134 t135 t136))) = some r := H
  have A3 := Aside0.mk A30
  clear A30
  have HC4 := Aside0.mk H
  clear H
  go_enter Try.func11, Try.ntmps11
  go_upto_region 3 with (first | ((with_reducible refine gate_callee (f := 36) rfl ?_); refine goesL_ (some 13) rfl rfl Try.func36 (by kernel_rfl) rfl #[.int .i64 a0] rfl (by (try simp only [List.map_toArray, List.map_cons, List.map_nil]); first | done | rfl | (simp only [List.length_drop, List.length_take]; rfl)) ?_; (with_reducible refine (spec_HeapNew.calls a0 t123 t126 t127 t128 t129 _ A2.out).mono ?_); rintro e w5 ⟨v124, rfl, ho0, hb⟩; refine ⟨_, rfl, ?_⟩; have n0_ := Aside0.mk (Kd.R_lower ho0 (below_size (by repeat (first | (with_reducible first | exact HB.out | apply below_alloc | apply pw_below_drewN | apply below_drew1) | exact HB.out)))); have n1_ := Aside0.mk (below_step (by repeat (first | (with_reducible first | exact HB.out | apply below_alloc | apply pw_below_drewN | apply below_drew1) | exact HB.out)) hb); clear HB; have HO125 := n0_; have HB := n1_; clear n0_ n1_; (try clear hb); (try clear hb2); (try clear hk); (try clear hi); (try clear ho0)) | ((with_reducible refine gate_dst (N := 3) rfl ?_); refine box_event ?hg (N := 3) ?hd (cs := #[.slice none 0 0, .int .i64 0, .int .i64 0, .int .i64 0]) (t := 41) ?hr ?_; (case hd => rfl); (case hg => rfl); (case hr => first | (go_simp; done) | (go_simp; rfl)); intro gb130 hg w6 hbox hb; have n0_ := Aside0.mk (Kd.R_below (by (with_reducible repeat (first | apply Kd.R_alloc | apply Kd.R_drewN | apply Kd.R_drew)); exact HO125.out) hb); have n1_ := Aside0.mk (below_step (by repeat (first | (with_reducible first | exact HB.out | apply below_alloc | apply pw_below_drewN | apply below_drew1) | exact HB.out)) hb); have n2_ := Aside0.mk (hbox); have n3_ := Aside0.mk ((by rw [hg]; exact (below_size (by repeat (first | (with_reducible first | exact HB.out | apply below_alloc | apply pw_below_drewN | apply below_drew1) | exact HB.out))) : w.heap.size ≤ gb130)); have n4_ := Aside0.mk ((by rw [hg]; exact (below_size (by repeat (first | (with_reducible first | exact HB.out | apply below_alloc | apply pw_below_drewN | apply below_drew1) | exact HB.out))) : w.heap.size ≤ gb130)); clear HO125; clear HB; have HO125 := n0_; have HB := n1_; have BK130 := n2_; have GW130 := n3_; have GE130 := n4_; clear n0_ n1_ n2_ n3_ n4_; clear hb hbox hg; obtain ⟨Ao7, co7, eo7⟩ := Kd.R_slice HO125.out; subst eo7; have hcz8_0 : w6.cell? ⟨gb130, 0, none⟩ = some (.slice none 0 0) := (blk_cell BK130.out 0).trans rfl; have hcz8_1 : w6.cell? ⟨gb130, 1, none⟩ = some (.int .i64 0) := (blk_cell BK130.out 1).trans rfl; have hcz8_2 : w6.cell? ⟨gb130, 2, none⟩ = some (.int .i64 0) := (blk_cell BK130.out 2).trans rfl; have hcz8_3 : w6.cell? ⟨gb130, 3, none⟩ = some (.int .i64 0) := (blk_cell BK130.out 3).trans rfl; have hfz8_0 := blk_frozen BK130.out 0; have hfz8_1 := blk_frozen BK130.out 1; have hfz8_2 := blk_frozen BK130.out 2; have hfz8_3 := blk_frozen BK130.out 3) | ((with_reducible refine gate_callee (f := 37) rfl ?_); refine goesL_ (some 18) rfl rfl Try.func37 (by kernel_rfl) rfl #[.int .i64 a0] rfl (by (try simp only [List.map_toArray, List.map_cons, List.map_nil]); first | done | rfl | (simp only [List.length_drop, List.length_take]; rfl)) ?_; (with_reducible refine (impl_HeapNew.calls a0 t131 t134 t135 t136 t137 _ A3.out).mono ?_); rintro e w9 ⟨v132, rfl, ho0, hb⟩; refine ⟨_, rfl, ?_⟩; have n0_ := Aside0.mk (Kd.R_elder' (by (with_reducible repeat (first | apply Kd.R_alloc | apply Kd.R_drewN | apply Kd.R_drew)); exact (Kd.R_mono (Kd.R_far (p := ⟨gb130, 3, none⟩) (Kd.R_far (p := ⟨gb130, 2, none⟩) (Kd.R_far (p := ⟨gb130, 1, none⟩) (Kd.R_far (p := ⟨gb130, 0, none⟩) (Kd.R_types HO125.out BK130.out (by decide)) (fun _ hk => hk.2) (.slice Ao7 t123.length co7)) (fun _ hk => hk.2) (.int .i64 t126)) (fun _ hk => hk.2) (.int .i64 t127)) (fun _ hk => hk.2) (.int .i64 t128)) (fun _ h_ => h_.1))) (Kd.R_base ho0) hb); have n1_ := Aside0.mk (Kd.R_lower (Kd.R_new' ho0 (Kd.R_lt (by (with_reducible repeat (first | apply Kd.R_alloc | apply Kd.R_drewN | apply Kd.R_drew)); exact (Kd.R_mono (Kd.R_far (p := ⟨gb130, 3, none⟩) (Kd.R_far (p := ⟨gb130, 2, none⟩) (Kd.R_far (p := ⟨gb130, 1, none⟩) (Kd.R_far (p := ⟨gb130, 0, none⟩) (Kd.R_types HO125.out BK130.out (by decide)) (fun _ hk => hk.2) (.slice Ao7 t123.length co7)) (fun _ hk => hk.2) (.int .i64 t126)) (fun _ hk => hk.2) (.int .i64 t127)) (fun _ hk => hk.2) (.int .i64 t128)) (fun _ h_ => h_.1))))) (below_size (by repeat (first | (with_reducible first | exact HB.out | apply below_alloc | apply pw_below_drewN | apply below_drew1 | refine below_set ?_ GE130.out) | exact HB.out)))); have n2_ := Aside0.mk (blk_below (g := gb130) (o := .cells #[.slice Ao7 t123.length co7, .int .i64 t126, .int .i64 t127, .int .i64 t128] 41 (0, 0)) (by (with_reducible repeat (first | refine blk_drewN ?_ _ | refine blk_drew ?_ | refine blk_alloc ?_ _)); refine blk_put (cs := #[.slice Ao7 t123.length co7, .int .i64 t126, .int .i64 t127, .int .i64 0]) ?_ 3 _ rfl; (with_reducible repeat (first | refine blk_drewN ?_ _ | refine blk_drew ?_ | refine blk_alloc ?_ _)); refine blk_put (cs := #[.slice Ao7 t123.length co7, .int .i64 t126, .int .i64 0, .int .i64 0]) ?_ 2 _ rfl; (with_reducible repeat (first | refine blk_drewN ?_ _ | refine blk_drew ?_ | refine blk_alloc ?_ _)); refine blk_put (cs := #[.slice Ao7 t123.length co7, .int .i64 0, .int .i64 0, .int .i64 0]) ?_ 1 _ rfl; (with_reducible repeat (first | refine blk_drewN ?_ _ | refine blk_drew ?_ | refine blk_alloc ?_ _)); refine blk_put (cs := #[.slice none 0 0, .int .i64 0, .int .i64 0, .int .i64 0]) ?_ 0 _ rfl; (with_reducible repeat (first | refine blk_drewN ?_ _ | refine blk_drew ?_ | refine blk_alloc ?_ _)); exact BK130.out) hb); have n3_ := Aside0.mk (below_step (by repeat (first | (with_reducible first | exact HB.out | apply below_alloc | apply pw_below_drewN | apply below_drew1 | refine below_set ?_ GE130.out) | exact HB.out)) hb); clear HO125; clear BK130; clear HB; have HO125 := n0_; have HO133 := n1_; have BK130 := n2_; have HB := n3_; clear n0_ n1_ n2_ n3_; (try clear hb); (try clear hb2); (try clear hk); (try clear hi); (try clear ho0)) | ((with_reducible refine gate_dst (N := 5) rfl ?_); refine box_event ?hg (N := 5) ?hd (cs := #[.slice none 0 0, .int .i64 0, .int .i64 0, .int .i64 0]) (t := 41) ?hr ?_; (case hd => rfl); (case hg => rfl); (case hr => first | (go_simp; done) | (go_simp; rfl)); intro gb138 hg w10 hbox hb; have n0_ := Aside0.mk (Kd.R_below (by (with_reducible repeat (first | apply Kd.R_alloc | apply Kd.R_drewN | apply Kd.R_drew)); exact HO125.out) hb); have n1_ := Aside0.mk (Kd.R_below (by (with_reducible repeat (first | apply Kd.R_alloc | apply Kd.R_drewN | apply Kd.R_drew)); exact HO133.out) hb); have n2_ := Aside0.mk (blk_below (g := gb130) (o := .cells #[.slice Ao7 t123.length co7, .int .i64 t126, .int .i64 t127, .int .i64 t128] 41 (0, 0)) (by (with_reducible repeat (first | refine blk_drewN ?_ _ | refine blk_drew ?_ | refine blk_alloc ?_ _)); exact BK130.out) hb); have n3_ := Aside0.mk (below_step (by repeat (first | (with_reducible first | exact HB.out | apply below_alloc | apply pw_below_drewN | apply below_drew1 | refine below_set ?_ GE130.out) | exact HB.out)) hb); have n4_ := Aside0.mk (hbox); have n5_ := Aside0.mk ((by rw [hg]; exact (below_size (by repeat (first | (with_reducible first | exact HB.out | apply below_alloc | apply pw_below_drewN | apply below_drew1 | refine below_set ?_ GE130.out) | exact HB.out))) : w.heap.size ≤ gb138)); have n6_ := Aside0.mk ((by rw [hg]; exact (below_size (by repeat (first | (with_reducible first | exact HB.out | apply below_alloc | apply pw_below_drewN | apply below_drew1 | refine below_set ?_ GE130.out) | exact HB.out))) : w.heap.size ≤ gb138)); have n7_ := Aside0.mk ((by rw [hg]; exact Nat.ne_of_lt (blk_lt (g := gb130) (o := .cells #[.slice Ao7 t123.length co7, .int .i64 t126, .int .i64 t127, .int .i64 t128] 41 (0, 0)) (by (with_reducible repeat (first | refine blk_drewN ?_ _ | refine blk_drew ?_ | refine blk_alloc ?_ _)); exact BK130.out)) : gb130 ≠ gb138)); have n8_ := Aside0.mk ((by rw [hg]; exact Nat.ne_of_gt (blk_lt (g := gb130) (o := .cells #[.slice Ao7 t123.length co7, .int .i64 t126, .int .i64 t127, .int .i64 t128] 41 (0, 0)) (by (with_reducible repeat (first | refine blk_drewN ?_ _ | refine blk_drew ?_ | refine blk_alloc ?_ _)); exact BK130.out)) : gb138 ≠ gb130)); clear HO125; clear HO133; clear BK130; clear HB; have HO125 := n0_; have HO133 := n1_; have BK130 := n2_; have HB := n3_; have BK138 := n4_; have GW138 := n5_; have GE138 := n6_; have NB130_138 := n7_; have NB138_130 := n8_; clear n0_ n1_ n2_ n3_ n4_ n5_ n6_ n7_ n8_; clear hb hbox hg; obtain ⟨Ao11, co11, eo11⟩ := Kd.R_slice HO133.out; subst eo11; have hnb12 := NB138_130.out; have hnc12 := NB130_138.out; have hcz13_0 : w10.cell? ⟨gb138, 0, none⟩ = some (.slice none 0 0) := (blk_cell BK138.out 0).trans rfl; have hcz13_1 : w10.cell? ⟨gb138, 1, none⟩ = some (.int .i64 0) := (blk_cell BK138.out 1).trans rfl; have hcz13_2 : w10.cell? ⟨gb138, 2, none⟩ = some (.int .i64 0) := (blk_cell BK138.out 2).trans rfl; have hcz13_3 : w10.cell? ⟨gb138, 3, none⟩ = some (.int .i64 0) := (blk_cell BK138.out 3).trans rfl; have hfz13_0 := blk_frozen BK138.out 0; have hfz13_1 := blk_frozen BK138.out 1; have hfz13_2 := blk_frozen BK138.out 2; have hfz13_3 := blk_frozen BK138.out 3))
  (try simp only [Act.put, List.setIfInBounds_toArray, List.set_cons_zero, List.set_cons_succ])
  go_cut [29] (fun v29 wc => ∃ (kq : Nat) (x29_3 : Bool), v29 = .bool x29_3 ∧ Aside0 (laws_FnExactHeapNew.j0 kq a0 t129 x29_3 t123 t126 t127 t128 t131 t134 t135 t136 = some r) ∧ Aside0 (kq ≤ k) ∧ Aside0 (Kd.R (Kd.int .i64) 3 wc w.heap.size (fun k_ => some k_ ≠ ((.slice Ao11 t131.length co11) : Value).ownBlock) (.slice Ao7 t123.length co7) t123) ∧ Aside0 (Kd.R (Kd.int .i64) 3 wc w.heap.size (fun k_ => some k_ ≠ ((.slice Ao7 t123.length co7) : Value).ownBlock) (.slice Ao11 t131.length co11) t131) ∧ Aside0 (wc.heap[gb130]? = some (.cells #[(.slice Ao7 t123.length co7), .int .i64 t126, .int .i64 t127, .int .i64 t128] 41 (0, 0))) ∧ Aside0 (wc.heap[gb138]? = some (.cells #[(.slice Ao11 t131.length co11), .int .i64 t134, .int .i64 t135, .int .i64 t136] 41 (0, 0))) ∧ Aside0 (Below w.heap.size w wc))
  case first =>
    have H := HC4.out
    clear HC4
    replace H := Option.bind_eq_some_iff.mp H
    obtain ⟨t139, A140, H⟩ := H
    replace H : (if t139 = true then (laws_FnExactHeapNew.j0 k a0 t129 (t137 != t129) t123 t126 t127 t128 t131 t134 t135 t136) else (laws_FnExactHeapNew.j0 k a0 t129 true t123 t126 t127 t128 t131 t134 t135 t136)) = some r := H
    have A14 := Aside0.mk A140
    clear A140
    by_cases c15 : t139 = true
    · subst c15
      have H1 : (laws_FnExactHeapNew.j0 k a0 t129 (t137 != t129) t123 t126 t127 t128 t131 t134 t135 t136) = some r := by rw [if_pos rfl] at H; exact H
      clear H
      have H := H1
      clear H1
      have H' := Aside0.mk H
      clear H
      have hnb16 := NB138_130.out
      have hnc16 := NB130_138.out
      have hcz17_0 : w10.cell? ⟨gb138, 0, none⟩ = some (.slice none 0 0) := (blk_cell BK138.out 0).trans rfl
      have hcz17_1 : w10.cell? ⟨gb138, 1, none⟩ = some (.int .i64 0) := (blk_cell BK138.out 1).trans rfl
      have hcz17_2 : w10.cell? ⟨gb138, 2, none⟩ = some (.int .i64 0) := (blk_cell BK138.out 2).trans rfl
      have hcz17_3 : w10.cell? ⟨gb138, 3, none⟩ = some (.int .i64 0) := (blk_cell BK138.out 3).trans rfl
      have hfz17_0 := blk_frozen BK138.out 0
      have hfz17_1 := blk_frozen BK138.out 1
      have hfz17_2 := blk_frozen BK138.out 2
      have hfz17_3 := blk_frozen BK138.out 3
      have hcz18_0 : w10.cell? ⟨gb130, 0, none⟩ = some (.slice Ao7 t123.length co7) := (blk_cell BK130.out 0).trans rfl
      have hcz18_1 : w10.cell? ⟨gb130, 1, none⟩ = some (.int .i64 t126) := (blk_cell BK130.out 1).trans rfl
      have hcz18_2 : w10.cell? ⟨gb130, 2, none⟩ = some (.int .i64 t127) := (blk_cell BK130.out 2).trans rfl
      have hcz18_3 : w10.cell? ⟨gb130, 3, none⟩ = some (.int .i64 t128) := (blk_cell BK130.out 3).trans rfl
      have hfz18_0 := blk_frozen BK130.out 0
      have hfz18_1 := blk_frozen BK130.out 1
      have hfz18_2 := blk_frozen BK130.out 2
      have hfz18_3 := blk_frozen BK130.out 3
      go_wp2_with (first | ((with_reducible refine gate_callee (f := 38) rfl ?_); refine goesL_ (some 23) rfl rfl Try.func38 (by kernel_rfl) rfl #[.agg #[.slice Ao11 t131.length co11, .int .i64 t134, .int .i64 t135, .int .i64 t136], .agg #[.slice Ao7 t123.length co7, .int .i64 t126, .int .i64 t127, .int .i64 t128]] rfl (by (try simp only [List.map_toArray, List.map_cons, List.map_nil]); first | done | rfl | (simp only [List.length_drop, List.length_take]; rfl)) ?_; (with_reducible refine (laws_eqHeap.calls k _ _ t131 t134 t135 t136 _ _ t123 t126 t127 t128 true _ ?side1 ?side2 ?side3 ?side4 A14.out).mono ?_); (case side1 => refine (Kd.R_reads' (e := 3) (base := w.heap.size) (ok := fun k_ => (True ∧ some k_ ≠ (.slice Ao7 t123.length co7 : Value).ownBlock)) (n := t131.length) (c := co11) ?_).2.2; exact (by (with_reducible repeat (first | apply Kd.R_alloc | apply Kd.R_drewN | apply Kd.R_drew)); exact (Kd.R_mono (Kd.R_far (p := ⟨gb138, 3, none⟩) (Kd.R_far (p := ⟨gb138, 2, none⟩) (Kd.R_far (p := ⟨gb138, 1, none⟩) (Kd.R_far (p := ⟨gb138, 0, none⟩) (Kd.R_types HO133.out BK138.out (by decide)) (fun _ hk => hk.2) (.slice Ao11 t131.length co11)) (fun _ hk => hk.2) (.int .i64 t134)) (fun _ hk => hk.2) (.int .i64 t135)) (fun _ hk => hk.2) (.int .i64 t136)) (fun _ h_ => h_.1)))); (case side2 => exact (Kd.R_reads' HO133.out).2.1); (case side3 => refine (Kd.R_reads' (e := 3) (base := w.heap.size) (ok := fun k_ => (True ∧ some k_ ≠ (.slice Ao11 t131.length co11 : Value).ownBlock)) (n := t123.length) (c := co7) ?_).2.2; exact (by (with_reducible repeat (first | apply Kd.R_alloc | apply Kd.R_drewN | apply Kd.R_drew)); exact (Kd.R_mono (Kd.R_far (p := ⟨gb138, 3, none⟩) (Kd.R_far (p := ⟨gb138, 2, none⟩) (Kd.R_far (p := ⟨gb138, 1, none⟩) (Kd.R_far (p := ⟨gb138, 0, none⟩) (Kd.R_types HO125.out BK138.out (by decide)) (fun _ hk => hk.2) (.slice Ao11 t131.length co11)) (fun _ hk => hk.2) (.int .i64 t134)) (fun _ hk => hk.2) (.int .i64 t135)) (fun _ hk => hk.2) (.int .i64 t136)) (fun _ h_ => h_.1)))); (case side4 => exact (Kd.R_reads' HO125.out).2.1); rintro e w19 ⟨rfl, hb⟩; refine ⟨_, rfl, ?_⟩; have n0_ := Aside0.mk (Kd.R_below (by (with_reducible repeat (first | apply Kd.R_alloc | apply Kd.R_drewN | apply Kd.R_drew)); exact (Kd.R_mono (Kd.R_far (p := ⟨gb138, 3, none⟩) (Kd.R_far (p := ⟨gb138, 2, none⟩) (Kd.R_far (p := ⟨gb138, 1, none⟩) (Kd.R_far (p := ⟨gb138, 0, none⟩) (Kd.R_types HO125.out BK138.out (by decide)) (fun _ hk => hk.2) (.slice Ao11 t131.length co11)) (fun _ hk => hk.2) (.int .i64 t134)) (fun _ hk => hk.2) (.int .i64 t135)) (fun _ hk => hk.2) (.int .i64 t136)) (fun _ h_ => h_.1))) hb); have n1_ := Aside0.mk (Kd.R_below (by (with_reducible repeat (first | apply Kd.R_alloc | apply Kd.R_drewN | apply Kd.R_drew)); exact (Kd.R_mono (Kd.R_far (p := ⟨gb138, 3, none⟩) (Kd.R_far (p := ⟨gb138, 2, none⟩) (Kd.R_far (p := ⟨gb138, 1, none⟩) (Kd.R_far (p := ⟨gb138, 0, none⟩) (Kd.R_types HO133.out BK138.out (by decide)) (fun _ hk => hk.2) (.slice Ao11 t131.length co11)) (fun _ hk => hk.2) (.int .i64 t134)) (fun _ hk => hk.2) (.int .i64 t135)) (fun _ hk => hk.2) (.int .i64 t136)) (fun _ h_ => h_.1))) hb); have n2_ := Aside0.mk (blk_below (g := gb130) (o := .cells #[.slice Ao7 t123.length co7, .int .i64 t126, .int .i64 t127, .int .i64 t128] 41 (0, 0)) (by (with_reducible repeat (first | refine blk_drewN ?_ _ | refine blk_drew ?_ | refine blk_alloc ?_ _)); refine blk_far ?_ NB130_138.out _; (with_reducible repeat (first | refine blk_drewN ?_ _ | refine blk_drew ?_ | refine blk_alloc ?_ _)); refine blk_far ?_ NB130_138.out _; (with_reducible repeat (first | refine blk_drewN ?_ _ | refine blk_drew ?_ | refine blk_alloc ?_ _)); refine blk_far ?_ NB130_138.out _; (with_reducible repeat (first | refine blk_drewN ?_ _ | refine blk_drew ?_ | refine blk_alloc ?_ _)); refine blk_far ?_ NB130_138.out _; (with_reducible repeat (first | refine blk_drewN ?_ _ | refine blk_drew ?_ | refine blk_alloc ?_ _)); exact BK130.out) hb); have n3_ := Aside0.mk (blk_below (g := gb138) (o := .cells #[.slice Ao11 t131.length co11, .int .i64 t134, .int .i64 t135, .int .i64 t136] 41 (0, 0)) (by (with_reducible repeat (first | refine blk_drewN ?_ _ | refine blk_drew ?_ | refine blk_alloc ?_ _)); refine blk_put (cs := #[.slice Ao11 t131.length co11, .int .i64 t134, .int .i64 t135, .int .i64 0]) ?_ 3 _ rfl; (with_reducible repeat (first | refine blk_drewN ?_ _ | refine blk_drew ?_ | refine blk_alloc ?_ _)); refine blk_put (cs := #[.slice Ao11 t131.length co11, .int .i64 t134, .int .i64 0, .int .i64 0]) ?_ 2 _ rfl; (with_reducible repeat (first | refine blk_drewN ?_ _ | refine blk_drew ?_ | refine blk_alloc ?_ _)); refine blk_put (cs := #[.slice Ao11 t131.length co11, .int .i64 0, .int .i64 0, .int .i64 0]) ?_ 1 _ rfl; (with_reducible repeat (first | refine blk_drewN ?_ _ | refine blk_drew ?_ | refine blk_alloc ?_ _)); refine blk_put (cs := #[.slice none 0 0, .int .i64 0, .int .i64 0, .int .i64 0]) ?_ 0 _ rfl; (with_reducible repeat (first | refine blk_drewN ?_ _ | refine blk_drew ?_ | refine blk_alloc ?_ _)); exact BK138.out) hb); have n4_ := Aside0.mk (below_step (by repeat (first | (with_reducible first | exact HB.out | apply below_alloc | apply pw_below_drewN | apply below_drew1 | refine below_set ?_ GE130.out | refine below_set ?_ GE138.out) | exact HB.out)) hb); clear HO125; clear HO133; clear BK130; clear BK138; clear HB; have HO125 := n0_; have HO133 := n1_; have BK130 := n2_; have BK138 := n3_; have HB := n4_; clear n0_ n1_ n2_ n3_ n4_; (try clear hb); (try clear hb2); (try clear hk); (try clear hi)))
      go_meet
      case rel => exact ⟨_, ((t137 != t129)), (by first | rfl | (simp; done) | (simp [*]; done)), H', ⟨by first | omega | exact Nat.le_refl _⟩, ⟨by (with_reducible repeat (first | apply Kd.R_alloc | apply Kd.R_drewN | apply Kd.R_drew)); exact Kd.R_mono HO125.out (fun _ hk => hk.2)⟩, ⟨by (with_reducible repeat (first | apply Kd.R_alloc | apply Kd.R_drewN | apply Kd.R_drew)); exact Kd.R_mono HO133.out (fun _ hk => hk.2)⟩, ⟨by (with_reducible repeat (first | refine blk_drewN ?_ _ | refine blk_drew ?_ | refine blk_alloc ?_ _)); exact BK130.out⟩, ⟨by (with_reducible repeat (first | refine blk_drewN ?_ _ | refine blk_drew ?_ | refine blk_alloc ?_ _)); exact BK138.out⟩, ⟨by repeat (first | (with_reducible first | exact HB.out | apply below_alloc | apply pw_below_drewN | apply below_drew1 | refine below_set ?_ GE130.out | refine below_set ?_ GE138.out) | exact HB.out)⟩⟩
    · replace c15 := Bool.eq_false_iff.mpr c15
      subst c15
      have H1 : (laws_FnExactHeapNew.j0 k a0 t129 true t123 t126 t127 t128 t131 t134 t135 t136) = some r := by rw [if_neg (show ¬ (false = true) by decide)] at H; exact H
      clear H
      have H := H1
      clear H1
      have H' := Aside0.mk H
      clear H
      have hnb20 := NB138_130.out
      have hnc20 := NB130_138.out
      have hcz21_0 : w10.cell? ⟨gb138, 0, none⟩ = some (.slice none 0 0) := (blk_cell BK138.out 0).trans rfl
      have hcz21_1 : w10.cell? ⟨gb138, 1, none⟩ = some (.int .i64 0) := (blk_cell BK138.out 1).trans rfl
      have hcz21_2 : w10.cell? ⟨gb138, 2, none⟩ = some (.int .i64 0) := (blk_cell BK138.out 2).trans rfl
      have hcz21_3 : w10.cell? ⟨gb138, 3, none⟩ = some (.int .i64 0) := (blk_cell BK138.out 3).trans rfl
      have hfz21_0 := blk_frozen BK138.out 0
      have hfz21_1 := blk_frozen BK138.out 1
      have hfz21_2 := blk_frozen BK138.out 2
      have hfz21_3 := blk_frozen BK138.out 3
      have hcz22_0 : w10.cell? ⟨gb130, 0, none⟩ = some (.slice Ao7 t123.length co7) := (blk_cell BK130.out 0).trans rfl
      have hcz22_1 : w10.cell? ⟨gb130, 1, none⟩ = some (.int .i64 t126) := (blk_cell BK130.out 1).trans rfl
      have hcz22_2 : w10.cell? ⟨gb130, 2, none⟩ = some (.int .i64 t127) := (blk_cell BK130.out 2).trans rfl
      have hcz22_3 : w10.cell? ⟨gb130, 3, none⟩ = some (.int .i64 t128) := (blk_cell BK130.out 3).trans rfl
      have hfz22_0 := blk_frozen BK130.out 0
      have hfz22_1 := blk_frozen BK130.out 1
      have hfz22_2 := blk_frozen BK130.out 2
      have hfz22_3 := blk_frozen BK130.out 3
      go_wp2_with (first | ((with_reducible refine gate_callee (f := 38) rfl ?_); refine goesL_ (some 23) rfl rfl Try.func38 (by kernel_rfl) rfl #[.agg #[.slice Ao11 t131.length co11, .int .i64 t134, .int .i64 t135, .int .i64 t136], .agg #[.slice Ao7 t123.length co7, .int .i64 t126, .int .i64 t127, .int .i64 t128]] rfl (by (try simp only [List.map_toArray, List.map_cons, List.map_nil]); first | done | rfl | (simp only [List.length_drop, List.length_take]; rfl)) ?_; (with_reducible refine (laws_eqHeap.calls k _ _ t131 t134 t135 t136 _ _ t123 t126 t127 t128 false _ ?side1 ?side2 ?side3 ?side4 A14.out).mono ?_); (case side1 => refine (Kd.R_reads' (e := 3) (base := w.heap.size) (ok := fun k_ => (True ∧ some k_ ≠ (.slice Ao7 t123.length co7 : Value).ownBlock)) (n := t131.length) (c := co11) ?_).2.2; exact (by (with_reducible repeat (first | apply Kd.R_alloc | apply Kd.R_drewN | apply Kd.R_drew)); exact (Kd.R_mono (Kd.R_far (p := ⟨gb138, 3, none⟩) (Kd.R_far (p := ⟨gb138, 2, none⟩) (Kd.R_far (p := ⟨gb138, 1, none⟩) (Kd.R_far (p := ⟨gb138, 0, none⟩) (Kd.R_types HO133.out BK138.out (by decide)) (fun _ hk => hk.2) (.slice Ao11 t131.length co11)) (fun _ hk => hk.2) (.int .i64 t134)) (fun _ hk => hk.2) (.int .i64 t135)) (fun _ hk => hk.2) (.int .i64 t136)) (fun _ h_ => h_.1)))); (case side2 => exact (Kd.R_reads' HO133.out).2.1); (case side3 => refine (Kd.R_reads' (e := 3) (base := w.heap.size) (ok := fun k_ => (True ∧ some k_ ≠ (.slice Ao11 t131.length co11 : Value).ownBlock)) (n := t123.length) (c := co7) ?_).2.2; exact (by (with_reducible repeat (first | apply Kd.R_alloc | apply Kd.R_drewN | apply Kd.R_drew)); exact (Kd.R_mono (Kd.R_far (p := ⟨gb138, 3, none⟩) (Kd.R_far (p := ⟨gb138, 2, none⟩) (Kd.R_far (p := ⟨gb138, 1, none⟩) (Kd.R_far (p := ⟨gb138, 0, none⟩) (Kd.R_types HO125.out BK138.out (by decide)) (fun _ hk => hk.2) (.slice Ao11 t131.length co11)) (fun _ hk => hk.2) (.int .i64 t134)) (fun _ hk => hk.2) (.int .i64 t135)) (fun _ hk => hk.2) (.int .i64 t136)) (fun _ h_ => h_.1)))); (case side4 => exact (Kd.R_reads' HO125.out).2.1); rintro e w23 ⟨rfl, hb⟩; refine ⟨_, rfl, ?_⟩; have n0_ := Aside0.mk (Kd.R_below (by (with_reducible repeat (first | apply Kd.R_alloc | apply Kd.R_drewN | apply Kd.R_drew)); exact (Kd.R_mono (Kd.R_far (p := ⟨gb138, 3, none⟩) (Kd.R_far (p := ⟨gb138, 2, none⟩) (Kd.R_far (p := ⟨gb138, 1, none⟩) (Kd.R_far (p := ⟨gb138, 0, none⟩) (Kd.R_types HO125.out BK138.out (by decide)) (fun _ hk => hk.2) (.slice Ao11 t131.length co11)) (fun _ hk => hk.2) (.int .i64 t134)) (fun _ hk => hk.2) (.int .i64 t135)) (fun _ hk => hk.2) (.int .i64 t136)) (fun _ h_ => h_.1))) hb); have n1_ := Aside0.mk (Kd.R_below (by (with_reducible repeat (first | apply Kd.R_alloc | apply Kd.R_drewN | apply Kd.R_drew)); exact (Kd.R_mono (Kd.R_far (p := ⟨gb138, 3, none⟩) (Kd.R_far (p := ⟨gb138, 2, none⟩) (Kd.R_far (p := ⟨gb138, 1, none⟩) (Kd.R_far (p := ⟨gb138, 0, none⟩) (Kd.R_types HO133.out BK138.out (by decide)) (fun _ hk => hk.2) (.slice Ao11 t131.length co11)) (fun _ hk => hk.2) (.int .i64 t134)) (fun _ hk => hk.2) (.int .i64 t135)) (fun _ hk => hk.2) (.int .i64 t136)) (fun _ h_ => h_.1))) hb); have n2_ := Aside0.mk (blk_below (g := gb130) (o := .cells #[.slice Ao7 t123.length co7, .int .i64 t126, .int .i64 t127, .int .i64 t128] 41 (0, 0)) (by (with_reducible repeat (first | refine blk_drewN ?_ _ | refine blk_drew ?_ | refine blk_alloc ?_ _)); refine blk_far ?_ NB130_138.out _; (with_reducible repeat (first | refine blk_drewN ?_ _ | refine blk_drew ?_ | refine blk_alloc ?_ _)); refine blk_far ?_ NB130_138.out _; (with_reducible repeat (first | refine blk_drewN ?_ _ | refine blk_drew ?_ | refine blk_alloc ?_ _)); refine blk_far ?_ NB130_138.out _; (with_reducible repeat (first | refine blk_drewN ?_ _ | refine blk_drew ?_ | refine blk_alloc ?_ _)); refine blk_far ?_ NB130_138.out _; (with_reducible repeat (first | refine blk_drewN ?_ _ | refine blk_drew ?_ | refine blk_alloc ?_ _)); exact BK130.out) hb); have n3_ := Aside0.mk (blk_below (g := gb138) (o := .cells #[.slice Ao11 t131.length co11, .int .i64 t134, .int .i64 t135, .int .i64 t136] 41 (0, 0)) (by (with_reducible repeat (first | refine blk_drewN ?_ _ | refine blk_drew ?_ | refine blk_alloc ?_ _)); refine blk_put (cs := #[.slice Ao11 t131.length co11, .int .i64 t134, .int .i64 t135, .int .i64 0]) ?_ 3 _ rfl; (with_reducible repeat (first | refine blk_drewN ?_ _ | refine blk_drew ?_ | refine blk_alloc ?_ _)); refine blk_put (cs := #[.slice Ao11 t131.length co11, .int .i64 t134, .int .i64 0, .int .i64 0]) ?_ 2 _ rfl; (with_reducible repeat (first | refine blk_drewN ?_ _ | refine blk_drew ?_ | refine blk_alloc ?_ _)); refine blk_put (cs := #[.slice Ao11 t131.length co11, .int .i64 0, .int .i64 0, .int .i64 0]) ?_ 1 _ rfl; (with_reducible repeat (first | refine blk_drewN ?_ _ | refine blk_drew ?_ | refine blk_alloc ?_ _)); refine blk_put (cs := #[.slice none 0 0, .int .i64 0, .int .i64 0, .int .i64 0]) ?_ 0 _ rfl; (with_reducible repeat (first | refine blk_drewN ?_ _ | refine blk_drew ?_ | refine blk_alloc ?_ _)); exact BK138.out) hb); have n4_ := Aside0.mk (below_step (by repeat (first | (with_reducible first | exact HB.out | apply below_alloc | apply pw_below_drewN | apply below_drew1 | refine below_set ?_ GE130.out | refine below_set ?_ GE138.out) | exact HB.out)) hb); clear HO125; clear HO133; clear BK130; clear BK138; clear HB; have HO125 := n0_; have HO133 := n1_; have BK130 := n2_; have BK138 := n3_; have HB := n4_; clear n0_ n1_ n2_ n3_ n4_; (try clear hb); (try clear hb2); (try clear hk); (try clear hi)))
      go_meet
      case rel => exact ⟨_, (true), (by first | rfl | (simp; done) | (simp [*]; done)), H', ⟨by first | omega | exact Nat.le_refl _⟩, ⟨by (with_reducible repeat (first | apply Kd.R_alloc | apply Kd.R_drewN | apply Kd.R_drew)); exact Kd.R_mono HO125.out (fun _ hk => hk.2)⟩, ⟨by (with_reducible repeat (first | apply Kd.R_alloc | apply Kd.R_drewN | apply Kd.R_drew)); exact Kd.R_mono HO133.out (fun _ hk => hk.2)⟩, ⟨by (with_reducible repeat (first | refine blk_drewN ?_ _ | refine blk_drew ?_ | refine blk_alloc ?_ _)); exact BK130.out⟩, ⟨by (with_reducible repeat (first | refine blk_drewN ?_ _ | refine blk_drew ?_ | refine blk_alloc ?_ _)); exact BK138.out⟩, ⟨by repeat (first | (with_reducible first | exact HB.out | apply below_alloc | apply pw_below_drewN | apply below_drew1 | refine below_set ?_ GE130.out | refine below_set ?_ GE138.out) | exact HB.out)⟩⟩
  case rest =>
    clear HC4
    try clear c1
    try clear c2
    try clear p2
    try clear c3
    try clear c11
    try clear c12
    try clear c15
    try clear c16
    try clear c20
    try clear hcz13_0
    try clear hcz13_1
    try clear hcz13_2
    try clear hcz13_3
    try clear hcz17_0
    try clear hcz17_1
    try clear hcz17_2
    try clear hcz17_3
    try clear hcz18_0
    try clear hcz18_1
    try clear hcz18_2
    try clear hcz18_3
    try clear hcz21_0
    try clear hcz21_1
    try clear hcz21_2
    try clear hcz21_3
    try clear hcz22_0
    try clear hcz22_1
    try clear hcz22_2
    try clear hcz22_3
    try clear hcz8_0
    try clear hcz8_1
    try clear hcz8_2
    try clear hcz8_3
    try clear hfz13_0
    try clear hfz13_1
    try clear hfz13_2
    try clear hfz13_3
    try clear hfz17_0
    try clear hfz17_1
    try clear hfz17_2
    try clear hfz17_3
    try clear hfz18_0
    try clear hfz18_1
    try clear hfz18_2
    try clear hfz18_3
    try clear hfz21_0
    try clear hfz21_1
    try clear hfz21_2
    try clear hfz21_3
    try clear hfz22_0
    try clear hfz22_1
    try clear hfz22_2
    try clear hfz22_3
    try clear hfz8_0
    try clear hfz8_1
    try clear hfz8_2
    try clear hfz8_3
    obtain ⟨kq, x29_3, rfl, HA, HJ3, HO_131000, HO_139000, BK130, BK138, HB⟩ := hcut
    cases kq with
    | zero => exact absurd HA.out (by simp [laws_FnExactHeapNew.j0])
    | succ kj3 =>
      have H := HA.out
      clear HA
      simp only [laws_FnExactHeapNew.j0] at H
      by_cases c24 : x29_3 = true
      · subst c24
        have H1 : (some false) = some r := by rw [if_pos rfl] at H; exact H
        clear H
        have H := H1
        clear H1
        obtain rfl := Option.some.inj H
        go_wp2
        go_ret
        exact ⟨by first | rfl | (simp [errW_none, errW_some] <;> rfl) | (simp [*, errW_none, errW_some] <;> rfl), by repeat (first | (with_reducible first | exact HB.out | apply below_alloc | apply pw_below_drewN | apply below_drew1 | refine below_set ?_ GE130.out | refine below_set ?_ GE138.out) | exact HB.out)⟩
      · replace c24 := Bool.eq_false_iff.mpr c24
        subst c24
        have H1 : ((laws_markHeap.f kj3 t131 t134 t135 t136 1).bind fun bt140 => ((laws_heldHeap.f kj3 bt140.2 t134 t135 t136 1).bind fun t142 => (if t142 < 0 then (some false) else (if t142 = bt140.1 then ((impl_HeapNew.f a0).bind fun bt143 => ((laws_eqHeap.f kj3 bt143.1 bt143.2.1 bt143.2.2.1 bt143.2.2.2.1 t123 t126 t127 t128).bind fun t151 => (if t151 = true then (laws_FnExactHeapNew.j1 kj3 bt140.1 (bt143.2.2.2.2 != t129) bt140.2 t134 t135 t136) else (laws_FnExactHeapNew.j1 kj3 bt140.1 true bt140.2 t134 t135 t136)))) else (some false))))) = some r := by rw [if_neg (show ¬ (false = true) by decide)] at H; exact H
        clear H
        have H := H1
        clear H1
        replace H := Option.bind_eq_some_iff.mp H
        obtain ⟨⟨t140, t141⟩, A250, H⟩ := H
        replace H : ((laws_heldHeap.f kj3 t141 t134 t135 t136 1).bind fun t142 => (if t142 < 0 then (some false) else (if t142 = t140 then ((impl_HeapNew.f a0).bind fun bt143 => ((laws_eqHeap.f kj3 bt143.1 bt143.2.1 bt143.2.2.1 bt143.2.2.2.1 t123 t126 t127 t128).bind fun t151 => (if t151 = true then (laws_FnExactHeapNew.j1 kj3 t140 (bt143.2.2.2.2 != t129) t141 t134 t135 t136) else (laws_FnExactHeapNew.j1 kj3 t140 true t141 t134 t135 t136)))) else (some false)))) = some r := H
        have A25 := Aside0.mk A250
        clear A250
        replace H := Option.bind_eq_some_iff.mp H
        obtain ⟨t142, A260, H⟩ := H
        replace H : (if t142 < 0 then (some false) else (if t142 = t140 then ((impl_HeapNew.f a0).bind fun bt143 => ((laws_eqHeap.f kj3 bt143.1 bt143.2.1 bt143.2.2.1 bt143.2.2.2.1 t123 t126 t127 t128).bind fun t151 => (if t151 = true then (laws_FnExactHeapNew.j1 kj3 t140 (bt143.2.2.2.2 != t129) t141 t134 t135 t136) else (laws_FnExactHeapNew.j1 kj3 t140 true t141 t134 t135 t136)))) else (some false))) = some r := H
        have A26 := Aside0.mk A260
        clear A260
        by_cases c27 : t142 < 0
        · rw [if_pos c27] at H
          have c27b0 : decide (t142 < 0) = true := decide_eq_true c27
          clear c27
          obtain rfl := Option.some.inj H
          have hnb28 := NB138_130.out
          have hnc28 := NB130_138.out
          have hcz29_0 : wc.cell? ⟨gb138, 0, none⟩ = some (.slice Ao11 t131.length co11) := (blk_cell BK138.out 0).trans rfl
          have hcz29_1 : wc.cell? ⟨gb138, 1, none⟩ = some (.int .i64 t134) := (blk_cell BK138.out 1).trans rfl
          have hcz29_2 : wc.cell? ⟨gb138, 2, none⟩ = some (.int .i64 t135) := (blk_cell BK138.out 2).trans rfl
          have hcz29_3 : wc.cell? ⟨gb138, 3, none⟩ = some (.int .i64 t136) := (blk_cell BK138.out 3).trans rfl
          have hfz29_0 := blk_frozen BK138.out 0
          have hfz29_1 := blk_frozen BK138.out 1
          have hfz29_2 := blk_frozen BK138.out 2
          have hfz29_3 := blk_frozen BK138.out 3
          go_wp2_with (first | ((with_reducible refine gate_callee (f := 39) rfl ?_); refine goesL_ (some 32) rfl rfl Try.func39 (by kernel_rfl) rfl #[.agg #[.slice Ao11 t131.length co11, .int .i64 t134, .int .i64 t135, .int .i64 t136], .int .i64 1] rfl (by (try simp only [List.map_toArray, List.map_cons, List.map_nil]); first | done | rfl | (simp only [List.length_drop, List.length_take]; rfl)) ?_; (with_reducible refine (laws_markHeap.calls kj3 (fun k_ => some k_ = (.slice Ao11 t131.length co11 : Value).ownBlock) (.slice Ao11 t131.length co11) t131 t134 t135 t136 1 t140 t141 w _ ?side1 ?side2 A25.out).mono ?_); (case side1 => repeat (first | (with_reducible first | exact HB.out | apply below_alloc | apply pw_below_drewN | apply below_drew1 | refine below_set ?_ GE130.out | refine below_set ?_ GE138.out) | exact HB.out)); (case side2 => exact Kd.R_tight rfl HO_139000.out); rintro e w30 ⟨rfl, hy0, hb, hkp⟩; refine ⟨_, rfl, ?_⟩; have n0_ := Aside0.mk (Kd.R_mono (ok' := fun k_ => some k_ ≠ (.slice Ao11 t131.length co11 : Value).ownBlock) (Kd.R_keptB (HO_131000.out) hkp (fun k_ hk_ hs_ => (hk_) hs_)) (fun k_ hk_ => hk_.1)); have n1_ := Aside0.mk (Kd.R_reok rfl hy0 (fun k_ e_ => HO_139000.out.1 k_ e_)); have n2_ := Aside0.mk (blk_kept (by (with_reducible repeat (first | refine blk_drewN ?_ _ | refine blk_drew ?_ | refine blk_alloc ?_ _)); exact BK130.out) hkp (fun hs_ => (fun e_ => (Kd.R_ne HO_139000.out BK130.out (by decide)) e_) hs_)); have n3_ := Aside0.mk (blk_kept (by (with_reducible repeat (first | refine blk_drewN ?_ _ | refine blk_drew ?_ | refine blk_alloc ?_ _)); exact BK138.out) hkp (fun hs_ => (fun e_ => (Kd.R_ne HO_139000.out BK138.out (by decide)) e_) hs_)); have n4_ := Aside0.mk (hb); clear HO_131000; clear HO_139000; clear BK130; clear BK138; clear HB; have HO_131000 := n0_; have HO_139000 := n1_; have BK130 := n2_; have BK138 := n3_; have HB := n4_; clear n0_ n1_ n2_ n3_ n4_; (try clear hb); (try clear hkp); (try clear hy0); have hcz31_0 : w30.cell? ⟨gb138, 0, none⟩ = some (.slice Ao11 t131.length co11) := (blk_cell BK138.out 0).trans rfl; have hcz31_1 : w30.cell? ⟨gb138, 1, none⟩ = some (.int .i64 t134) := (blk_cell BK138.out 1).trans rfl; have hcz31_2 : w30.cell? ⟨gb138, 2, none⟩ = some (.int .i64 t135) := (blk_cell BK138.out 2).trans rfl; have hcz31_3 : w30.cell? ⟨gb138, 3, none⟩ = some (.int .i64 t136) := (blk_cell BK138.out 3).trans rfl; have hfz31_0 := blk_frozen BK138.out 0; have hfz31_1 := blk_frozen BK138.out 1; have hfz31_2 := blk_frozen BK138.out 2; have hfz31_3 := blk_frozen BK138.out 3) | ((with_reducible refine gate_callee (f := 40) rfl ?_); refine goesL_ (some 35) rfl rfl Try.func40 (by kernel_rfl) rfl #[.agg #[.slice Ao11 t141.length co11, .int .i64 t134, .int .i64 t135, .int .i64 t136], .int .i64 1] rfl (by (try simp only [List.map_toArray, List.map_cons, List.map_nil]); first | done | (rw [show t141.length = t131.length from (Kd.R_reads' HO_139000.out).1.symm] <;> rfl) | rfl | (simp only [List.length_drop, List.length_take]; rfl)) ?_; (with_reducible refine (laws_heldHeap.calls kj3 _ _ t141 t134 t135 t136 1 t142 _ ?side1 ?side2 A26.out).mono ?_); (case side1 => repeat (first | exact (Kd.R_reads' HO_139000.out).2.2 | (with_reducible refine Kd.C_alloc ?_ _) | (with_reducible refine Kd.C_drewN ?_ _) | (with_reducible refine Kd.C_drew ?_))); (case side2 => rw [show t141.length = t131.length from (Kd.R_reads' HO_139000.out).1.symm]; exact (Kd.R_reads' HO_139000.out).2.1); rintro e w32 ⟨rfl, hb⟩; refine ⟨_, rfl, ?_⟩; have n0_ := Aside0.mk (Kd.R_below (by (with_reducible repeat (first | apply Kd.R_alloc | apply Kd.R_drewN | apply Kd.R_drew)); exact HO_131000.out) hb); have n1_ := Aside0.mk (Kd.R_below (by (with_reducible repeat (first | apply Kd.R_alloc | apply Kd.R_drewN | apply Kd.R_drew)); exact HO_139000.out) hb); have n2_ := Aside0.mk (blk_below (g := gb130) (o := .cells #[.slice Ao7 t123.length co7, .int .i64 t126, .int .i64 t127, .int .i64 t128] 41 (0, 0)) (by (with_reducible repeat (first | refine blk_drewN ?_ _ | refine blk_drew ?_ | refine blk_alloc ?_ _)); exact BK130.out) hb); have n3_ := Aside0.mk (blk_below (g := gb138) (o := .cells #[.slice Ao11 t131.length co11, .int .i64 t134, .int .i64 t135, .int .i64 t136] 41 (0, 0)) (by (with_reducible repeat (first | refine blk_drewN ?_ _ | refine blk_drew ?_ | refine blk_alloc ?_ _)); exact BK138.out) hb); have n4_ := Aside0.mk (below_step (by repeat (first | (with_reducible first | exact HB.out | apply below_alloc | apply pw_below_drewN | apply below_drew1 | refine below_set ?_ GE130.out | refine below_set ?_ GE138.out) | exact HB.out)) hb); clear HO_131000; clear HO_139000; clear BK130; clear BK138; clear HB; have HO_131000 := n0_; have HO_139000 := n1_; have BK130 := n2_; have BK138 := n3_; have HB := n4_; clear n0_ n1_ n2_ n3_ n4_; (try clear hb); (try clear hb2); (try clear hk); (try clear hi)))
          go_ret
          exact ⟨by first | rfl | (simp [errW_none, errW_some] <;> rfl) | (simp [*, errW_none, errW_some] <;> rfl), by repeat (first | (with_reducible first | exact HB.out | apply below_alloc | apply pw_below_drewN | apply below_drew1 | refine below_set ?_ GE130.out | refine below_set ?_ GE138.out) | exact HB.out)⟩
        · rw [if_neg c27] at H
          have c27b0 : decide (t142 < 0) = false := decide_eq_false c27
          clear c27
          by_cases c33 : t142 = t140
          · rw [if_pos c33] at H
            have c33b0 : (t142 == t140) = true := beq_iff_eq.mpr c33
            have c33b1 : (t142 != t140) = false := bne_eq_false_iff_eq.mpr c33
            clear c33
            replace H := Option.bind_eq_some_iff.mp H
            obtain ⟨⟨t143, t146, t147, t148, t149⟩, A340, H⟩ := H
            replace H : ((laws_eqHeap.f kj3 t143 t146 t147 t148 t123 t126 t127 t128).bind fun t151 => (if t151 = true then (laws_FnExactHeapNew.j1 kj3 t140 (t149 != t129) t141 t134 t135 t136) else (laws_FnExactHeapNew.j1 kj3 t140 true t141 t134 t135 t136))) = some r := H
            have A34 := Aside0.mk A340
            clear A340
            have HC35 := Aside0.mk H
            clear H
            have hnb36 := NB138_130.out
            have hnc36 := NB130_138.out
            have hcz37_0 : wc.cell? ⟨gb138, 0, none⟩ = some (.slice Ao11 t131.length co11) := (blk_cell BK138.out 0).trans rfl
            have hcz37_1 : wc.cell? ⟨gb138, 1, none⟩ = some (.int .i64 t134) := (blk_cell BK138.out 1).trans rfl
            have hcz37_2 : wc.cell? ⟨gb138, 2, none⟩ = some (.int .i64 t135) := (blk_cell BK138.out 2).trans rfl
            have hcz37_3 : wc.cell? ⟨gb138, 3, none⟩ = some (.int .i64 t136) := (blk_cell BK138.out 3).trans rfl
            have hfz37_0 := blk_frozen BK138.out 0
            have hfz37_1 := blk_frozen BK138.out 1
            have hfz37_2 := blk_frozen BK138.out 2
            have hfz37_3 := blk_frozen BK138.out 3
            go_upto_region 14 with (first | ((with_reducible refine gate_callee (f := 39) rfl ?_); refine goesL_ (some 32) rfl rfl Try.func39 (by kernel_rfl) rfl #[.agg #[.slice Ao11 t131.length co11, .int .i64 t134, .int .i64 t135, .int .i64 t136], .int .i64 1] rfl (by (try simp only [List.map_toArray, List.map_cons, List.map_nil]); first | done | rfl | (simp only [List.length_drop, List.length_take]; rfl)) ?_; (with_reducible refine (laws_markHeap.calls kj3 (fun k_ => some k_ = (.slice Ao11 t131.length co11 : Value).ownBlock) (.slice Ao11 t131.length co11) t131 t134 t135 t136 1 t140 t141 w _ ?side1 ?side2 A25.out).mono ?_); (case side1 => repeat (first | (with_reducible first | exact HB.out | apply below_alloc | apply pw_below_drewN | apply below_drew1 | refine below_set ?_ GE130.out | refine below_set ?_ GE138.out) | exact HB.out)); (case side2 => exact Kd.R_tight rfl HO_139000.out); rintro e w38 ⟨rfl, hy0, hb, hkp⟩; refine ⟨_, rfl, ?_⟩; have n0_ := Aside0.mk (Kd.R_mono (ok' := fun k_ => some k_ ≠ (.slice Ao11 t131.length co11 : Value).ownBlock) (Kd.R_keptB (HO_131000.out) hkp (fun k_ hk_ hs_ => (hk_) hs_)) (fun k_ hk_ => hk_.1)); have n1_ := Aside0.mk (Kd.R_reok rfl hy0 (fun k_ e_ => HO_139000.out.1 k_ e_)); have n2_ := Aside0.mk (blk_kept (by (with_reducible repeat (first | refine blk_drewN ?_ _ | refine blk_drew ?_ | refine blk_alloc ?_ _)); exact BK130.out) hkp (fun hs_ => (fun e_ => (Kd.R_ne HO_139000.out BK130.out (by decide)) e_) hs_)); have n3_ := Aside0.mk (blk_kept (by (with_reducible repeat (first | refine blk_drewN ?_ _ | refine blk_drew ?_ | refine blk_alloc ?_ _)); exact BK138.out) hkp (fun hs_ => (fun e_ => (Kd.R_ne HO_139000.out BK138.out (by decide)) e_) hs_)); have n4_ := Aside0.mk (hb); clear HO_131000; clear HO_139000; clear BK130; clear BK138; clear HB; have HO_131000 := n0_; have HO_139000 := n1_; have BK130 := n2_; have BK138 := n3_; have HB := n4_; clear n0_ n1_ n2_ n3_ n4_; (try clear hb); (try clear hkp); (try clear hy0); have hcz39_0 : w38.cell? ⟨gb138, 0, none⟩ = some (.slice Ao11 t131.length co11) := (blk_cell BK138.out 0).trans rfl; have hcz39_1 : w38.cell? ⟨gb138, 1, none⟩ = some (.int .i64 t134) := (blk_cell BK138.out 1).trans rfl; have hcz39_2 : w38.cell? ⟨gb138, 2, none⟩ = some (.int .i64 t135) := (blk_cell BK138.out 2).trans rfl; have hcz39_3 : w38.cell? ⟨gb138, 3, none⟩ = some (.int .i64 t136) := (blk_cell BK138.out 3).trans rfl; have hfz39_0 := blk_frozen BK138.out 0; have hfz39_1 := blk_frozen BK138.out 1; have hfz39_2 := blk_frozen BK138.out 2; have hfz39_3 := blk_frozen BK138.out 3) | ((with_reducible refine gate_callee (f := 40) rfl ?_); refine goesL_ (some 35) rfl rfl Try.func40 (by kernel_rfl) rfl #[.agg #[.slice Ao11 t141.length co11, .int .i64 t134, .int .i64 t135, .int .i64 t136], .int .i64 1] rfl (by (try simp only [List.map_toArray, List.map_cons, List.map_nil]); first | done | (rw [show t141.length = t131.length from (Kd.R_reads' HO_139000.out).1.symm] <;> rfl) | rfl | (simp only [List.length_drop, List.length_take]; rfl)) ?_; (with_reducible refine (laws_heldHeap.calls kj3 _ _ t141 t134 t135 t136 1 t142 _ ?side1 ?side2 A26.out).mono ?_); (case side1 => repeat (first | exact (Kd.R_reads' HO_139000.out).2.2 | (with_reducible refine Kd.C_alloc ?_ _) | (with_reducible refine Kd.C_drewN ?_ _) | (with_reducible refine Kd.C_drew ?_))); (case side2 => rw [show t141.length = t131.length from (Kd.R_reads' HO_139000.out).1.symm]; exact (Kd.R_reads' HO_139000.out).2.1); rintro e w40 ⟨rfl, hb⟩; refine ⟨_, rfl, ?_⟩; have n0_ := Aside0.mk (Kd.R_below (by (with_reducible repeat (first | apply Kd.R_alloc | apply Kd.R_drewN | apply Kd.R_drew)); exact HO_131000.out) hb); have n1_ := Aside0.mk (Kd.R_below (by (with_reducible repeat (first | apply Kd.R_alloc | apply Kd.R_drewN | apply Kd.R_drew)); exact HO_139000.out) hb); have n2_ := Aside0.mk (blk_below (g := gb130) (o := .cells #[.slice Ao7 t123.length co7, .int .i64 t126, .int .i64 t127, .int .i64 t128] 41 (0, 0)) (by (with_reducible repeat (first | refine blk_drewN ?_ _ | refine blk_drew ?_ | refine blk_alloc ?_ _)); exact BK130.out) hb); have n3_ := Aside0.mk (blk_below (g := gb138) (o := .cells #[.slice Ao11 t131.length co11, .int .i64 t134, .int .i64 t135, .int .i64 t136] 41 (0, 0)) (by (with_reducible repeat (first | refine blk_drewN ?_ _ | refine blk_drew ?_ | refine blk_alloc ?_ _)); exact BK138.out) hb); have n4_ := Aside0.mk (below_step (by repeat (first | (with_reducible first | exact HB.out | apply below_alloc | apply pw_below_drewN | apply below_drew1 | refine below_set ?_ GE130.out | refine below_set ?_ GE138.out) | exact HB.out)) hb); clear HO_131000; clear HO_139000; clear BK130; clear BK138; clear HB; have HO_131000 := n0_; have HO_139000 := n1_; have BK130 := n2_; have BK138 := n3_; have HB := n4_; clear n0_ n1_ n2_ n3_ n4_; (try clear hb); (try clear hb2); (try clear hk); (try clear hi)) | ((with_reducible refine gate_callee (f := 37) rfl ?_); refine goesL_ (some 43) rfl rfl Try.func37 (by kernel_rfl) rfl #[.int .i64 a0] rfl (by (try simp only [List.map_toArray, List.map_cons, List.map_nil]); first | done | rfl | (simp only [List.length_drop, List.length_take]; rfl)) ?_; (with_reducible refine (impl_HeapNew.calls a0 t143 t146 t147 t148 t149 _ A34.out).mono ?_); rintro e w41 ⟨v144, rfl, ho0, hb⟩; refine ⟨_, rfl, ?_⟩; have n0_ := Aside0.mk (Kd.R_elder' (by (with_reducible repeat (first | apply Kd.R_alloc | apply Kd.R_drewN | apply Kd.R_drew)); exact HO_131000.out) (Kd.R_base ho0) hb); have n1_ := Aside0.mk (Kd.R_elder' (by (with_reducible repeat (first | apply Kd.R_alloc | apply Kd.R_drewN | apply Kd.R_drew)); exact HO_139000.out) (Kd.R_base ho0) hb); have n2_ := Aside0.mk (Kd.R_lower (Kd.R_new' (Kd.R_new' ho0 (Kd.R_lt (by (with_reducible repeat (first | apply Kd.R_alloc | apply Kd.R_drewN | apply Kd.R_drew)); exact HO_131000.out))) (Kd.R_lt (by (with_reducible repeat (first | apply Kd.R_alloc | apply Kd.R_drewN | apply Kd.R_drew)); exact HO_139000.out))) (below_size (by repeat (first | (with_reducible first | exact HB.out | apply below_alloc | apply pw_below_drewN | apply below_drew1 | refine below_set ?_ GE130.out | refine below_set ?_ GE138.out) | exact HB.out)))); have n3_ := Aside0.mk (blk_below (g := gb130) (o := .cells #[.slice Ao7 t123.length co7, .int .i64 t126, .int .i64 t127, .int .i64 t128] 41 (0, 0)) (by (with_reducible repeat (first | refine blk_drewN ?_ _ | refine blk_drew ?_ | refine blk_alloc ?_ _)); exact BK130.out) hb); have n4_ := Aside0.mk (blk_below (g := gb138) (o := .cells #[.slice Ao11 t131.length co11, .int .i64 t134, .int .i64 t135, .int .i64 t136] 41 (0, 0)) (by (with_reducible repeat (first | refine blk_drewN ?_ _ | refine blk_drew ?_ | refine blk_alloc ?_ _)); exact BK138.out) hb); have n5_ := Aside0.mk (below_step (by repeat (first | (with_reducible first | exact HB.out | apply below_alloc | apply pw_below_drewN | apply below_drew1 | refine below_set ?_ GE130.out | refine below_set ?_ GE138.out) | exact HB.out)) hb); clear HO_131000; clear HO_139000; clear BK130; clear BK138; clear HB; have HO_131000 := n0_; have HO_139000 := n1_; have HO145 := n2_; have BK130 := n3_; have BK138 := n4_; have HB := n5_; clear n0_ n1_ n2_ n3_ n4_ n5_; (try clear hb); (try clear hb2); (try clear hk); (try clear hi); (try clear ho0)) | ((with_reducible refine gate_dst (N := 9) rfl ?_); refine box_event ?hg (N := 9) ?hd (cs := #[.slice none 0 0, .int .i64 0, .int .i64 0, .int .i64 0]) (t := 41) ?hr ?_; (case hd => rfl); (case hg => rfl); (case hr => first | (go_simp; done) | (go_simp; rfl)); intro gb150 hg w42 hbox hb; have n0_ := Aside0.mk (Kd.R_below (by (with_reducible repeat (first | apply Kd.R_alloc | apply Kd.R_drewN | apply Kd.R_drew)); exact HO_131000.out) hb); have n1_ := Aside0.mk (Kd.R_below (by (with_reducible repeat (first | apply Kd.R_alloc | apply Kd.R_drewN | apply Kd.R_drew)); exact HO_139000.out) hb); have n2_ := Aside0.mk (Kd.R_below (by (with_reducible repeat (first | apply Kd.R_alloc | apply Kd.R_drewN | apply Kd.R_drew)); exact HO145.out) hb); have n3_ := Aside0.mk (blk_below (g := gb130) (o := .cells #[.slice Ao7 t123.length co7, .int .i64 t126, .int .i64 t127, .int .i64 t128] 41 (0, 0)) (by (with_reducible repeat (first | refine blk_drewN ?_ _ | refine blk_drew ?_ | refine blk_alloc ?_ _)); exact BK130.out) hb); have n4_ := Aside0.mk (blk_below (g := gb138) (o := .cells #[.slice Ao11 t131.length co11, .int .i64 t134, .int .i64 t135, .int .i64 t136] 41 (0, 0)) (by (with_reducible repeat (first | refine blk_drewN ?_ _ | refine blk_drew ?_ | refine blk_alloc ?_ _)); exact BK138.out) hb); have n5_ := Aside0.mk (below_step (by repeat (first | (with_reducible first | exact HB.out | apply below_alloc | apply pw_below_drewN | apply below_drew1 | refine below_set ?_ GE130.out | refine below_set ?_ GE138.out) | exact HB.out)) hb); have n6_ := Aside0.mk (hbox); have n7_ := Aside0.mk ((by rw [hg]; exact (below_size (by repeat (first | (with_reducible first | exact HB.out | apply below_alloc | apply pw_below_drewN | apply below_drew1 | refine below_set ?_ GE130.out | refine below_set ?_ GE138.out) | exact HB.out))) : w.heap.size ≤ gb150)); have n8_ := Aside0.mk ((by rw [hg]; exact (below_size (by repeat (first | (with_reducible first | exact HB.out | apply below_alloc | apply pw_below_drewN | apply below_drew1 | refine below_set ?_ GE130.out | refine below_set ?_ GE138.out) | exact HB.out))) : w.heap.size ≤ gb150)); have n9_ := Aside0.mk ((by rw [hg]; exact Nat.ne_of_lt (blk_lt (g := gb130) (o := .cells #[.slice Ao7 t123.length co7, .int .i64 t126, .int .i64 t127, .int .i64 t128] 41 (0, 0)) (by (with_reducible repeat (first | refine blk_drewN ?_ _ | refine blk_drew ?_ | refine blk_alloc ?_ _)); exact BK130.out)) : gb130 ≠ gb150)); have n10_ := Aside0.mk ((by rw [hg]; exact Nat.ne_of_gt (blk_lt (g := gb130) (o := .cells #[.slice Ao7 t123.length co7, .int .i64 t126, .int .i64 t127, .int .i64 t128] 41 (0, 0)) (by (with_reducible repeat (first | refine blk_drewN ?_ _ | refine blk_drew ?_ | refine blk_alloc ?_ _)); exact BK130.out)) : gb150 ≠ gb130)); have n11_ := Aside0.mk ((by rw [hg]; exact Nat.ne_of_lt (blk_lt (g := gb138) (o := .cells #[.slice Ao11 t131.length co11, .int .i64 t134, .int .i64 t135, .int .i64 t136] 41 (0, 0)) (by (with_reducible repeat (first | refine blk_drewN ?_ _ | refine blk_drew ?_ | refine blk_alloc ?_ _)); exact BK138.out)) : gb138 ≠ gb150)); have n12_ := Aside0.mk ((by rw [hg]; exact Nat.ne_of_gt (blk_lt (g := gb138) (o := .cells #[.slice Ao11 t131.length co11, .int .i64 t134, .int .i64 t135, .int .i64 t136] 41 (0, 0)) (by (with_reducible repeat (first | refine blk_drewN ?_ _ | refine blk_drew ?_ | refine blk_alloc ?_ _)); exact BK138.out)) : gb150 ≠ gb138)); clear HO_131000; clear HO_139000; clear HO145; clear BK130; clear BK138; clear HB; have HO_131000 := n0_; have HO_139000 := n1_; have HO145 := n2_; have BK130 := n3_; have BK138 := n4_; have HB := n5_; have BK150 := n6_; have GW150 := n7_; have GE150 := n8_; have NB130_150 := n9_; have NB150_130 := n10_; have NB138_150 := n11_; have NB150_138 := n12_; clear n0_ n1_ n2_ n3_ n4_ n5_ n6_ n7_ n8_ n9_ n10_ n11_ n12_; clear hb hbox hg; obtain ⟨Ao43, co43, eo43⟩ := Kd.R_slice HO145.out; subst eo43; have hnb44 := NB150_130.out; have hnc44 := NB130_150.out; have hnb45 := NB150_138.out; have hnc45 := NB138_150.out; have hcz46_0 : w42.cell? ⟨gb150, 0, none⟩ = some (.slice none 0 0) := (blk_cell BK150.out 0).trans rfl; have hcz46_1 : w42.cell? ⟨gb150, 1, none⟩ = some (.int .i64 0) := (blk_cell BK150.out 1).trans rfl; have hcz46_2 : w42.cell? ⟨gb150, 2, none⟩ = some (.int .i64 0) := (blk_cell BK150.out 2).trans rfl; have hcz46_3 : w42.cell? ⟨gb150, 3, none⟩ = some (.int .i64 0) := (blk_cell BK150.out 3).trans rfl; have hfz46_0 := blk_frozen BK150.out 0; have hfz46_1 := blk_frozen BK150.out 1; have hfz46_2 := blk_frozen BK150.out 2; have hfz46_3 := blk_frozen BK150.out 3))
            (try simp only [Act.put, List.setIfInBounds_toArray, List.set_cons_zero, List.set_cons_succ])
            go_cut [54] (fun v54 wc => ∃ (kq : Nat) (x54_34 : Bool), v54 = .bool x54_34 ∧ Aside0 (laws_FnExactHeapNew.j1 kq t140 x54_34 t141 t134 t135 t136 = some r) ∧ Aside0 (kq ≤ kj3) ∧ Aside0 (Kd.R (Kd.int .i64) 3 wc w.heap.size (fun k_ => some k_ ≠ ((.slice Ao11 t131.length co11) : Value).ownBlock ∧ some k_ ≠ ((.slice Ao43 t143.length co43) : Value).ownBlock) (.slice Ao7 t123.length co7) t123) ∧ Aside0 (Kd.R (Kd.int .i64) 3 wc w.heap.size (fun k_ => some k_ ≠ ((.slice Ao7 t123.length co7) : Value).ownBlock ∧ some k_ ≠ ((.slice Ao43 t143.length co43) : Value).ownBlock) (.slice Ao11 t131.length co11) t141) ∧ Aside0 (Kd.R (Kd.int .i64) 3 wc w.heap.size (fun k_ => some k_ ≠ ((.slice Ao7 t123.length co7) : Value).ownBlock ∧ some k_ ≠ ((.slice Ao11 t131.length co11) : Value).ownBlock) (.slice Ao43 t143.length co43) t143) ∧ Aside0 (wc.heap[gb130]? = some (.cells #[(.slice Ao7 t123.length co7), .int .i64 t126, .int .i64 t127, .int .i64 t128] 41 (0, 0))) ∧ Aside0 (wc.heap[gb138]? = some (.cells #[(.slice Ao11 t131.length co11), .int .i64 t134, .int .i64 t135, .int .i64 t136] 41 (0, 0))) ∧ Aside0 (wc.heap[gb150]? = some (.cells #[(.slice Ao43 t143.length co43), .int .i64 t146, .int .i64 t147, .int .i64 t148] 41 (0, 0))) ∧ Aside0 (Below w.heap.size w wc))
            case first =>
              have H := HC35.out
              clear HC35
              replace H := Option.bind_eq_some_iff.mp H
              obtain ⟨t151, A470, H⟩ := H
              replace H : (if t151 = true then (laws_FnExactHeapNew.j1 kj3 t140 (t149 != t129) t141 t134 t135 t136) else (laws_FnExactHeapNew.j1 kj3 t140 true t141 t134 t135 t136)) = some r := H
              have A47 := Aside0.mk A470
              clear A470
              by_cases c48 : t151 = true
              · subst c48
                have H1 : (laws_FnExactHeapNew.j1 kj3 t140 (t149 != t129) t141 t134 t135 t136) = some r := by rw [if_pos rfl] at H; exact H
                clear H
                have H := H1
                clear H1
                have H' := Aside0.mk H
                clear H
                have hnb49 := NB150_130.out
                have hnc49 := NB130_150.out
                have hnb50 := NB150_138.out
                have hnc50 := NB138_150.out
                have hcz51_0 : w42.cell? ⟨gb150, 0, none⟩ = some (.slice none 0 0) := (blk_cell BK150.out 0).trans rfl
                have hcz51_1 : w42.cell? ⟨gb150, 1, none⟩ = some (.int .i64 0) := (blk_cell BK150.out 1).trans rfl
                have hcz51_2 : w42.cell? ⟨gb150, 2, none⟩ = some (.int .i64 0) := (blk_cell BK150.out 2).trans rfl
                have hcz51_3 : w42.cell? ⟨gb150, 3, none⟩ = some (.int .i64 0) := (blk_cell BK150.out 3).trans rfl
                have hfz51_0 := blk_frozen BK150.out 0
                have hfz51_1 := blk_frozen BK150.out 1
                have hfz51_2 := blk_frozen BK150.out 2
                have hfz51_3 := blk_frozen BK150.out 3
                have hnb52 := NB130_138.out
                have hnc52 := NB138_130.out
                have hcz53_0 : w42.cell? ⟨gb130, 0, none⟩ = some (.slice Ao7 t123.length co7) := (blk_cell BK130.out 0).trans rfl
                have hcz53_1 : w42.cell? ⟨gb130, 1, none⟩ = some (.int .i64 t126) := (blk_cell BK130.out 1).trans rfl
                have hcz53_2 : w42.cell? ⟨gb130, 2, none⟩ = some (.int .i64 t127) := (blk_cell BK130.out 2).trans rfl
                have hcz53_3 : w42.cell? ⟨gb130, 3, none⟩ = some (.int .i64 t128) := (blk_cell BK130.out 3).trans rfl
                have hfz53_0 := blk_frozen BK130.out 0
                have hfz53_1 := blk_frozen BK130.out 1
                have hfz53_2 := blk_frozen BK130.out 2
                have hfz53_3 := blk_frozen BK130.out 3
                go_wp2_with (first | ((with_reducible refine gate_callee (f := 38) rfl ?_); refine goesL_ (some 48) rfl rfl Try.func38 (by kernel_rfl) rfl #[.agg #[.slice Ao43 t143.length co43, .int .i64 t146, .int .i64 t147, .int .i64 t148], .agg #[.slice Ao7 t123.length co7, .int .i64 t126, .int .i64 t127, .int .i64 t128]] rfl (by (try simp only [List.map_toArray, List.map_cons, List.map_nil]); first | done | rfl | (simp only [List.length_drop, List.length_take]; rfl)) ?_; (with_reducible refine (laws_eqHeap.calls kj3 _ _ t143 t146 t147 t148 _ _ t123 t126 t127 t128 true _ ?side1 ?side2 ?side3 ?side4 A47.out).mono ?_); (case side1 => refine (Kd.R_reads' (e := 3) (base := w.heap.size) (ok := fun k_ => ((True ∧ some k_ ≠ (.slice Ao7 t123.length co7 : Value).ownBlock) ∧ some k_ ≠ (.slice Ao11 t131.length co11 : Value).ownBlock)) (n := t143.length) (c := co43) ?_).2.2; exact (by (with_reducible repeat (first | apply Kd.R_alloc | apply Kd.R_drewN | apply Kd.R_drew)); exact (Kd.R_mono (Kd.R_far (p := ⟨gb150, 3, none⟩) (Kd.R_far (p := ⟨gb150, 2, none⟩) (Kd.R_far (p := ⟨gb150, 1, none⟩) (Kd.R_far (p := ⟨gb150, 0, none⟩) (Kd.R_types HO145.out BK150.out (by decide)) (fun _ hk => hk.2) (.slice Ao43 t143.length co43)) (fun _ hk => hk.2) (.int .i64 t146)) (fun _ hk => hk.2) (.int .i64 t147)) (fun _ hk => hk.2) (.int .i64 t148)) (fun _ h_ => h_.1)))); (case side2 => exact (Kd.R_reads' HO145.out).2.1); (case side3 => refine (Kd.R_reads' (e := 3) (base := w.heap.size) (ok := fun k_ => (some k_ ≠ (.slice Ao11 t131.length co11 : Value).ownBlock ∧ some k_ ≠ (.slice Ao43 t143.length co43 : Value).ownBlock)) (n := t123.length) (c := co7) ?_).2.2; exact (by (with_reducible repeat (first | apply Kd.R_alloc | apply Kd.R_drewN | apply Kd.R_drew)); exact (Kd.R_mono (Kd.R_far (p := ⟨gb150, 3, none⟩) (Kd.R_far (p := ⟨gb150, 2, none⟩) (Kd.R_far (p := ⟨gb150, 1, none⟩) (Kd.R_far (p := ⟨gb150, 0, none⟩) (Kd.R_types HO_131000.out BK150.out (by decide)) (fun _ hk => hk.2) (.slice Ao43 t143.length co43)) (fun _ hk => hk.2) (.int .i64 t146)) (fun _ hk => hk.2) (.int .i64 t147)) (fun _ hk => hk.2) (.int .i64 t148)) (fun _ h_ => h_.1)))); (case side4 => exact (Kd.R_reads' HO_131000.out).2.1); rintro e w54 ⟨rfl, hb⟩; refine ⟨_, rfl, ?_⟩; have n0_ := Aside0.mk (Kd.R_below (by (with_reducible repeat (first | apply Kd.R_alloc | apply Kd.R_drewN | apply Kd.R_drew)); exact (Kd.R_mono (Kd.R_far (p := ⟨gb150, 3, none⟩) (Kd.R_far (p := ⟨gb150, 2, none⟩) (Kd.R_far (p := ⟨gb150, 1, none⟩) (Kd.R_far (p := ⟨gb150, 0, none⟩) (Kd.R_types HO_131000.out BK150.out (by decide)) (fun _ hk => hk.2) (.slice Ao43 t143.length co43)) (fun _ hk => hk.2) (.int .i64 t146)) (fun _ hk => hk.2) (.int .i64 t147)) (fun _ hk => hk.2) (.int .i64 t148)) (fun _ h_ => h_.1))) hb); have n1_ := Aside0.mk (Kd.R_below (by (with_reducible repeat (first | apply Kd.R_alloc | apply Kd.R_drewN | apply Kd.R_drew)); exact (Kd.R_mono (Kd.R_far (p := ⟨gb150, 3, none⟩) (Kd.R_far (p := ⟨gb150, 2, none⟩) (Kd.R_far (p := ⟨gb150, 1, none⟩) (Kd.R_far (p := ⟨gb150, 0, none⟩) (Kd.R_types HO_139000.out BK150.out (by decide)) (fun _ hk => hk.2) (.slice Ao43 t143.length co43)) (fun _ hk => hk.2) (.int .i64 t146)) (fun _ hk => hk.2) (.int .i64 t147)) (fun _ hk => hk.2) (.int .i64 t148)) (fun _ h_ => h_.1))) hb); have n2_ := Aside0.mk (Kd.R_below (by (with_reducible repeat (first | apply Kd.R_alloc | apply Kd.R_drewN | apply Kd.R_drew)); exact (Kd.R_mono (Kd.R_far (p := ⟨gb150, 3, none⟩) (Kd.R_far (p := ⟨gb150, 2, none⟩) (Kd.R_far (p := ⟨gb150, 1, none⟩) (Kd.R_far (p := ⟨gb150, 0, none⟩) (Kd.R_types HO145.out BK150.out (by decide)) (fun _ hk => hk.2) (.slice Ao43 t143.length co43)) (fun _ hk => hk.2) (.int .i64 t146)) (fun _ hk => hk.2) (.int .i64 t147)) (fun _ hk => hk.2) (.int .i64 t148)) (fun _ h_ => h_.1))) hb); have n3_ := Aside0.mk (blk_below (g := gb130) (o := .cells #[.slice Ao7 t123.length co7, .int .i64 t126, .int .i64 t127, .int .i64 t128] 41 (0, 0)) (by (with_reducible repeat (first | refine blk_drewN ?_ _ | refine blk_drew ?_ | refine blk_alloc ?_ _)); refine blk_far ?_ NB130_150.out _; (with_reducible repeat (first | refine blk_drewN ?_ _ | refine blk_drew ?_ | refine blk_alloc ?_ _)); refine blk_far ?_ NB130_150.out _; (with_reducible repeat (first | refine blk_drewN ?_ _ | refine blk_drew ?_ | refine blk_alloc ?_ _)); refine blk_far ?_ NB130_150.out _; (with_reducible repeat (first | refine blk_drewN ?_ _ | refine blk_drew ?_ | refine blk_alloc ?_ _)); refine blk_far ?_ NB130_150.out _; (with_reducible repeat (first | refine blk_drewN ?_ _ | refine blk_drew ?_ | refine blk_alloc ?_ _)); exact BK130.out) hb); have n4_ := Aside0.mk (blk_below (g := gb138) (o := .cells #[.slice Ao11 t131.length co11, .int .i64 t134, .int .i64 t135, .int .i64 t136] 41 (0, 0)) (by (with_reducible repeat (first | refine blk_drewN ?_ _ | refine blk_drew ?_ | refine blk_alloc ?_ _)); refine blk_far ?_ NB138_150.out _; (with_reducible repeat (first | refine blk_drewN ?_ _ | refine blk_drew ?_ | refine blk_alloc ?_ _)); refine blk_far ?_ NB138_150.out _; (with_reducible repeat (first | refine blk_drewN ?_ _ | refine blk_drew ?_ | refine blk_alloc ?_ _)); refine blk_far ?_ NB138_150.out _; (with_reducible repeat (first | refine blk_drewN ?_ _ | refine blk_drew ?_ | refine blk_alloc ?_ _)); refine blk_far ?_ NB138_150.out _; (with_reducible repeat (first | refine blk_drewN ?_ _ | refine blk_drew ?_ | refine blk_alloc ?_ _)); exact BK138.out) hb); have n5_ := Aside0.mk (blk_below (g := gb150) (o := .cells #[.slice Ao43 t143.length co43, .int .i64 t146, .int .i64 t147, .int .i64 t148] 41 (0, 0)) (by (with_reducible repeat (first | refine blk_drewN ?_ _ | refine blk_drew ?_ | refine blk_alloc ?_ _)); refine blk_put (cs := #[.slice Ao43 t143.length co43, .int .i64 t146, .int .i64 t147, .int .i64 0]) ?_ 3 _ rfl; (with_reducible repeat (first | refine blk_drewN ?_ _ | refine blk_drew ?_ | refine blk_alloc ?_ _)); refine blk_put (cs := #[.slice Ao43 t143.length co43, .int .i64 t146, .int .i64 0, .int .i64 0]) ?_ 2 _ rfl; (with_reducible repeat (first | refine blk_drewN ?_ _ | refine blk_drew ?_ | refine blk_alloc ?_ _)); refine blk_put (cs := #[.slice Ao43 t143.length co43, .int .i64 0, .int .i64 0, .int .i64 0]) ?_ 1 _ rfl; (with_reducible repeat (first | refine blk_drewN ?_ _ | refine blk_drew ?_ | refine blk_alloc ?_ _)); refine blk_put (cs := #[.slice none 0 0, .int .i64 0, .int .i64 0, .int .i64 0]) ?_ 0 _ rfl; (with_reducible repeat (first | refine blk_drewN ?_ _ | refine blk_drew ?_ | refine blk_alloc ?_ _)); exact BK150.out) hb); have n6_ := Aside0.mk (below_step (by repeat (first | (with_reducible first | exact HB.out | apply below_alloc | apply pw_below_drewN | apply below_drew1 | refine below_set ?_ GE130.out | refine below_set ?_ GE138.out | refine below_set ?_ GE150.out) | exact HB.out)) hb); clear HO_131000; clear HO_139000; clear HO145; clear BK130; clear BK138; clear BK150; clear HB; have HO_131000 := n0_; have HO_139000 := n1_; have HO145 := n2_; have BK130 := n3_; have BK138 := n4_; have BK150 := n5_; have HB := n6_; clear n0_ n1_ n2_ n3_ n4_ n5_ n6_; (try clear hb); (try clear hb2); (try clear hk); (try clear hi)))
                go_meet
                case rel => exact ⟨_, ((t149 != t129)), (by first | rfl | (simp; done) | (simp [*]; done)), H', ⟨by have := HJ3.out; first | omega | exact Nat.le_refl _⟩, ⟨by (with_reducible repeat (first | apply Kd.R_alloc | apply Kd.R_drewN | apply Kd.R_drew)); exact HO_131000.out⟩, ⟨by (with_reducible repeat (first | apply Kd.R_alloc | apply Kd.R_drewN | apply Kd.R_drew)); exact HO_139000.out⟩, ⟨by (with_reducible repeat (first | apply Kd.R_alloc | apply Kd.R_drewN | apply Kd.R_drew)); exact Kd.R_mono HO145.out (fun _ hk => ⟨hk.1.2, hk.2⟩)⟩, ⟨by (with_reducible repeat (first | refine blk_drewN ?_ _ | refine blk_drew ?_ | refine blk_alloc ?_ _)); exact BK130.out⟩, ⟨by (with_reducible repeat (first | refine blk_drewN ?_ _ | refine blk_drew ?_ | refine blk_alloc ?_ _)); exact BK138.out⟩, ⟨by (with_reducible repeat (first | refine blk_drewN ?_ _ | refine blk_drew ?_ | refine blk_alloc ?_ _)); exact BK150.out⟩, ⟨by repeat (first | (with_reducible first | exact HB.out | apply below_alloc | apply pw_below_drewN | apply below_drew1 | refine below_set ?_ GE130.out | refine below_set ?_ GE138.out | refine below_set ?_ GE150.out) | exact HB.out)⟩⟩
              · replace c48 := Bool.eq_false_iff.mpr c48
                subst c48
                have H1 : (laws_FnExactHeapNew.j1 kj3 t140 true t141 t134 t135 t136) = some r := by rw [if_neg (show ¬ (false = true) by decide)] at H; exact H
                clear H
                have H := H1
                clear H1
                have H' := Aside0.mk H
                clear H
                have hnb55 := NB150_130.out
                have hnc55 := NB130_150.out
                have hnb56 := NB150_138.out
                have hnc56 := NB138_150.out
                have hcz57_0 : w42.cell? ⟨gb150, 0, none⟩ = some (.slice none 0 0) := (blk_cell BK150.out 0).trans rfl
                have hcz57_1 : w42.cell? ⟨gb150, 1, none⟩ = some (.int .i64 0) := (blk_cell BK150.out 1).trans rfl
                have hcz57_2 : w42.cell? ⟨gb150, 2, none⟩ = some (.int .i64 0) := (blk_cell BK150.out 2).trans rfl
                have hcz57_3 : w42.cell? ⟨gb150, 3, none⟩ = some (.int .i64 0) := (blk_cell BK150.out 3).trans rfl
                have hfz57_0 := blk_frozen BK150.out 0
                have hfz57_1 := blk_frozen BK150.out 1
                have hfz57_2 := blk_frozen BK150.out 2
                have hfz57_3 := blk_frozen BK150.out 3
                have hnb58 := NB130_138.out
                have hnc58 := NB138_130.out
                have hcz59_0 : w42.cell? ⟨gb130, 0, none⟩ = some (.slice Ao7 t123.length co7) := (blk_cell BK130.out 0).trans rfl
                have hcz59_1 : w42.cell? ⟨gb130, 1, none⟩ = some (.int .i64 t126) := (blk_cell BK130.out 1).trans rfl
                have hcz59_2 : w42.cell? ⟨gb130, 2, none⟩ = some (.int .i64 t127) := (blk_cell BK130.out 2).trans rfl
                have hcz59_3 : w42.cell? ⟨gb130, 3, none⟩ = some (.int .i64 t128) := (blk_cell BK130.out 3).trans rfl
                have hfz59_0 := blk_frozen BK130.out 0
                have hfz59_1 := blk_frozen BK130.out 1
                have hfz59_2 := blk_frozen BK130.out 2
                have hfz59_3 := blk_frozen BK130.out 3
                go_wp2_with (first | ((with_reducible refine gate_callee (f := 38) rfl ?_); refine goesL_ (some 48) rfl rfl Try.func38 (by kernel_rfl) rfl #[.agg #[.slice Ao43 t143.length co43, .int .i64 t146, .int .i64 t147, .int .i64 t148], .agg #[.slice Ao7 t123.length co7, .int .i64 t126, .int .i64 t127, .int .i64 t128]] rfl (by (try simp only [List.map_toArray, List.map_cons, List.map_nil]); first | done | rfl | (simp only [List.length_drop, List.length_take]; rfl)) ?_; (with_reducible refine (laws_eqHeap.calls kj3 _ _ t143 t146 t147 t148 _ _ t123 t126 t127 t128 false _ ?side1 ?side2 ?side3 ?side4 A47.out).mono ?_); (case side1 => refine (Kd.R_reads' (e := 3) (base := w.heap.size) (ok := fun k_ => ((True ∧ some k_ ≠ (.slice Ao7 t123.length co7 : Value).ownBlock) ∧ some k_ ≠ (.slice Ao11 t131.length co11 : Value).ownBlock)) (n := t143.length) (c := co43) ?_).2.2; exact (by (with_reducible repeat (first | apply Kd.R_alloc | apply Kd.R_drewN | apply Kd.R_drew)); exact (Kd.R_mono (Kd.R_far (p := ⟨gb150, 3, none⟩) (Kd.R_far (p := ⟨gb150, 2, none⟩) (Kd.R_far (p := ⟨gb150, 1, none⟩) (Kd.R_far (p := ⟨gb150, 0, none⟩) (Kd.R_types HO145.out BK150.out (by decide)) (fun _ hk => hk.2) (.slice Ao43 t143.length co43)) (fun _ hk => hk.2) (.int .i64 t146)) (fun _ hk => hk.2) (.int .i64 t147)) (fun _ hk => hk.2) (.int .i64 t148)) (fun _ h_ => h_.1)))); (case side2 => exact (Kd.R_reads' HO145.out).2.1); (case side3 => refine (Kd.R_reads' (e := 3) (base := w.heap.size) (ok := fun k_ => (some k_ ≠ (.slice Ao11 t131.length co11 : Value).ownBlock ∧ some k_ ≠ (.slice Ao43 t143.length co43 : Value).ownBlock)) (n := t123.length) (c := co7) ?_).2.2; exact (by (with_reducible repeat (first | apply Kd.R_alloc | apply Kd.R_drewN | apply Kd.R_drew)); exact (Kd.R_mono (Kd.R_far (p := ⟨gb150, 3, none⟩) (Kd.R_far (p := ⟨gb150, 2, none⟩) (Kd.R_far (p := ⟨gb150, 1, none⟩) (Kd.R_far (p := ⟨gb150, 0, none⟩) (Kd.R_types HO_131000.out BK150.out (by decide)) (fun _ hk => hk.2) (.slice Ao43 t143.length co43)) (fun _ hk => hk.2) (.int .i64 t146)) (fun _ hk => hk.2) (.int .i64 t147)) (fun _ hk => hk.2) (.int .i64 t148)) (fun _ h_ => h_.1)))); (case side4 => exact (Kd.R_reads' HO_131000.out).2.1); rintro e w60 ⟨rfl, hb⟩; refine ⟨_, rfl, ?_⟩; have n0_ := Aside0.mk (Kd.R_below (by (with_reducible repeat (first | apply Kd.R_alloc | apply Kd.R_drewN | apply Kd.R_drew)); exact (Kd.R_mono (Kd.R_far (p := ⟨gb150, 3, none⟩) (Kd.R_far (p := ⟨gb150, 2, none⟩) (Kd.R_far (p := ⟨gb150, 1, none⟩) (Kd.R_far (p := ⟨gb150, 0, none⟩) (Kd.R_types HO_131000.out BK150.out (by decide)) (fun _ hk => hk.2) (.slice Ao43 t143.length co43)) (fun _ hk => hk.2) (.int .i64 t146)) (fun _ hk => hk.2) (.int .i64 t147)) (fun _ hk => hk.2) (.int .i64 t148)) (fun _ h_ => h_.1))) hb); have n1_ := Aside0.mk (Kd.R_below (by (with_reducible repeat (first | apply Kd.R_alloc | apply Kd.R_drewN | apply Kd.R_drew)); exact (Kd.R_mono (Kd.R_far (p := ⟨gb150, 3, none⟩) (Kd.R_far (p := ⟨gb150, 2, none⟩) (Kd.R_far (p := ⟨gb150, 1, none⟩) (Kd.R_far (p := ⟨gb150, 0, none⟩) (Kd.R_types HO_139000.out BK150.out (by decide)) (fun _ hk => hk.2) (.slice Ao43 t143.length co43)) (fun _ hk => hk.2) (.int .i64 t146)) (fun _ hk => hk.2) (.int .i64 t147)) (fun _ hk => hk.2) (.int .i64 t148)) (fun _ h_ => h_.1))) hb); have n2_ := Aside0.mk (Kd.R_below (by (with_reducible repeat (first | apply Kd.R_alloc | apply Kd.R_drewN | apply Kd.R_drew)); exact (Kd.R_mono (Kd.R_far (p := ⟨gb150, 3, none⟩) (Kd.R_far (p := ⟨gb150, 2, none⟩) (Kd.R_far (p := ⟨gb150, 1, none⟩) (Kd.R_far (p := ⟨gb150, 0, none⟩) (Kd.R_types HO145.out BK150.out (by decide)) (fun _ hk => hk.2) (.slice Ao43 t143.length co43)) (fun _ hk => hk.2) (.int .i64 t146)) (fun _ hk => hk.2) (.int .i64 t147)) (fun _ hk => hk.2) (.int .i64 t148)) (fun _ h_ => h_.1))) hb); have n3_ := Aside0.mk (blk_below (g := gb130) (o := .cells #[.slice Ao7 t123.length co7, .int .i64 t126, .int .i64 t127, .int .i64 t128] 41 (0, 0)) (by (with_reducible repeat (first | refine blk_drewN ?_ _ | refine blk_drew ?_ | refine blk_alloc ?_ _)); refine blk_far ?_ NB130_150.out _; (with_reducible repeat (first | refine blk_drewN ?_ _ | refine blk_drew ?_ | refine blk_alloc ?_ _)); refine blk_far ?_ NB130_150.out _; (with_reducible repeat (first | refine blk_drewN ?_ _ | refine blk_drew ?_ | refine blk_alloc ?_ _)); refine blk_far ?_ NB130_150.out _; (with_reducible repeat (first | refine blk_drewN ?_ _ | refine blk_drew ?_ | refine blk_alloc ?_ _)); refine blk_far ?_ NB130_150.out _; (with_reducible repeat (first | refine blk_drewN ?_ _ | refine blk_drew ?_ | refine blk_alloc ?_ _)); exact BK130.out) hb); have n4_ := Aside0.mk (blk_below (g := gb138) (o := .cells #[.slice Ao11 t131.length co11, .int .i64 t134, .int .i64 t135, .int .i64 t136] 41 (0, 0)) (by (with_reducible repeat (first | refine blk_drewN ?_ _ | refine blk_drew ?_ | refine blk_alloc ?_ _)); refine blk_far ?_ NB138_150.out _; (with_reducible repeat (first | refine blk_drewN ?_ _ | refine blk_drew ?_ | refine blk_alloc ?_ _)); refine blk_far ?_ NB138_150.out _; (with_reducible repeat (first | refine blk_drewN ?_ _ | refine blk_drew ?_ | refine blk_alloc ?_ _)); refine blk_far ?_ NB138_150.out _; (with_reducible repeat (first | refine blk_drewN ?_ _ | refine blk_drew ?_ | refine blk_alloc ?_ _)); refine blk_far ?_ NB138_150.out _; (with_reducible repeat (first | refine blk_drewN ?_ _ | refine blk_drew ?_ | refine blk_alloc ?_ _)); exact BK138.out) hb); have n5_ := Aside0.mk (blk_below (g := gb150) (o := .cells #[.slice Ao43 t143.length co43, .int .i64 t146, .int .i64 t147, .int .i64 t148] 41 (0, 0)) (by (with_reducible repeat (first | refine blk_drewN ?_ _ | refine blk_drew ?_ | refine blk_alloc ?_ _)); refine blk_put (cs := #[.slice Ao43 t143.length co43, .int .i64 t146, .int .i64 t147, .int .i64 0]) ?_ 3 _ rfl; (with_reducible repeat (first | refine blk_drewN ?_ _ | refine blk_drew ?_ | refine blk_alloc ?_ _)); refine blk_put (cs := #[.slice Ao43 t143.length co43, .int .i64 t146, .int .i64 0, .int .i64 0]) ?_ 2 _ rfl; (with_reducible repeat (first | refine blk_drewN ?_ _ | refine blk_drew ?_ | refine blk_alloc ?_ _)); refine blk_put (cs := #[.slice Ao43 t143.length co43, .int .i64 0, .int .i64 0, .int .i64 0]) ?_ 1 _ rfl; (with_reducible repeat (first | refine blk_drewN ?_ _ | refine blk_drew ?_ | refine blk_alloc ?_ _)); refine blk_put (cs := #[.slice none 0 0, .int .i64 0, .int .i64 0, .int .i64 0]) ?_ 0 _ rfl; (with_reducible repeat (first | refine blk_drewN ?_ _ | refine blk_drew ?_ | refine blk_alloc ?_ _)); exact BK150.out) hb); have n6_ := Aside0.mk (below_step (by repeat (first | (with_reducible first | exact HB.out | apply below_alloc | apply pw_below_drewN | apply below_drew1 | refine below_set ?_ GE130.out | refine below_set ?_ GE138.out | refine below_set ?_ GE150.out) | exact HB.out)) hb); clear HO_131000; clear HO_139000; clear HO145; clear BK130; clear BK138; clear BK150; clear HB; have HO_131000 := n0_; have HO_139000 := n1_; have HO145 := n2_; have BK130 := n3_; have BK138 := n4_; have BK150 := n5_; have HB := n6_; clear n0_ n1_ n2_ n3_ n4_ n5_ n6_; (try clear hb); (try clear hb2); (try clear hk); (try clear hi)))
                go_meet
                case rel => exact ⟨_, (true), (by first | rfl | (simp; done) | (simp [*]; done)), H', ⟨by have := HJ3.out; first | omega | exact Nat.le_refl _⟩, ⟨by (with_reducible repeat (first | apply Kd.R_alloc | apply Kd.R_drewN | apply Kd.R_drew)); exact HO_131000.out⟩, ⟨by (with_reducible repeat (first | apply Kd.R_alloc | apply Kd.R_drewN | apply Kd.R_drew)); exact HO_139000.out⟩, ⟨by (with_reducible repeat (first | apply Kd.R_alloc | apply Kd.R_drewN | apply Kd.R_drew)); exact Kd.R_mono HO145.out (fun _ hk => ⟨hk.1.2, hk.2⟩)⟩, ⟨by (with_reducible repeat (first | refine blk_drewN ?_ _ | refine blk_drew ?_ | refine blk_alloc ?_ _)); exact BK130.out⟩, ⟨by (with_reducible repeat (first | refine blk_drewN ?_ _ | refine blk_drew ?_ | refine blk_alloc ?_ _)); exact BK138.out⟩, ⟨by (with_reducible repeat (first | refine blk_drewN ?_ _ | refine blk_drew ?_ | refine blk_alloc ?_ _)); exact BK150.out⟩, ⟨by repeat (first | (with_reducible first | exact HB.out | apply below_alloc | apply pw_below_drewN | apply below_drew1 | refine below_set ?_ GE130.out | refine below_set ?_ GE138.out | refine below_set ?_ GE150.out) | exact HB.out)⟩⟩
            case rest =>
              clear HC35
              try clear c1
              try clear c2
              try clear p2
              try clear c3
              try clear c4
              try clear c5
              try clear c11
              try clear c12
              try clear c15
              try clear c16
              try clear c20
              try clear c24
              try clear c27
              try clear c27b0
              try clear c28
              try clear c33
              try clear c33b0
              try clear c33b1
              try clear c36
              try clear c37
              try clear c38
              try clear c39
              try clear c40
              try clear c44
              try clear c45
              try clear c48
              try clear c49
              try clear c50
              try clear c52
              try clear c55
              try clear c56
              try clear c58
              try clear hcz13_0
              try clear hcz13_1
              try clear hcz13_2
              try clear hcz13_3
              try clear hcz17_0
              try clear hcz17_1
              try clear hcz17_2
              try clear hcz17_3
              try clear hcz18_0
              try clear hcz18_1
              try clear hcz18_2
              try clear hcz18_3
              try clear hcz21_0
              try clear hcz21_1
              try clear hcz21_2
              try clear hcz21_3
              try clear hcz22_0
              try clear hcz22_1
              try clear hcz22_2
              try clear hcz22_3
              try clear hcz29_0
              try clear hcz29_1
              try clear hcz29_2
              try clear hcz29_3
              try clear hcz31_0
              try clear hcz31_1
              try clear hcz31_2
              try clear hcz31_3
              try clear hcz37_0
              try clear hcz37_1
              try clear hcz37_2
              try clear hcz37_3
              try clear hcz39_0
              try clear hcz39_1
              try clear hcz39_2
              try clear hcz39_3
              try clear hcz46_0
              try clear hcz46_1
              try clear hcz46_2
              try clear hcz46_3
              try clear hcz51_0
              try clear hcz51_1
              try clear hcz51_2
              try clear hcz51_3
              try clear hcz53_0
              try clear hcz53_1
              try clear hcz53_2
              try clear hcz53_3
              try clear hcz57_0
              try clear hcz57_1
              try clear hcz57_2
              try clear hcz57_3
              try clear hcz59_0
              try clear hcz59_1
              try clear hcz59_2
              try clear hcz59_3
              try clear hcz8_0
              try clear hcz8_1
              try clear hcz8_2
              try clear hcz8_3
              try clear hfz13_0
              try clear hfz13_1
              try clear hfz13_2
              try clear hfz13_3
              try clear hfz17_0
              try clear hfz17_1
              try clear hfz17_2
              try clear hfz17_3
              try clear hfz18_0
              try clear hfz18_1
              try clear hfz18_2
              try clear hfz18_3
              try clear hfz21_0
              try clear hfz21_1
              try clear hfz21_2
              try clear hfz21_3
              try clear hfz22_0
              try clear hfz22_1
              try clear hfz22_2
              try clear hfz22_3
              try clear hfz29_0
              try clear hfz29_1
              try clear hfz29_2
              try clear hfz29_3
              try clear hfz31_0
              try clear hfz31_1
              try clear hfz31_2
              try clear hfz31_3
              try clear hfz37_0
              try clear hfz37_1
              try clear hfz37_2
              try clear hfz37_3
              try clear hfz39_0
              try clear hfz39_1
              try clear hfz39_2
              try clear hfz39_3
              try clear hfz46_0
              try clear hfz46_1
              try clear hfz46_2
              try clear hfz46_3
              try clear hfz51_0
              try clear hfz51_1
              try clear hfz51_2
              try clear hfz51_3
              try clear hfz53_0
              try clear hfz53_1
              try clear hfz53_2
              try clear hfz53_3
              try clear hfz57_0
              try clear hfz57_1
              try clear hfz57_2
              try clear hfz57_3
              try clear hfz59_0
              try clear hfz59_1
              try clear hfz59_2
              try clear hfz59_3
              try clear hfz8_0
              try clear hfz8_1
              try clear hfz8_2
              try clear hfz8_3
              try clear p2
              obtain ⟨kq, x54_34, rfl, HA, HJ34, HO_131000, HO_139000, HO_151000, BK130, BK138, BK150, HB⟩ := hcut
              have hl139000_34 := (Kd.R_reads' HO_139000.out).1
              rw [hl139000_34] at HO_139000
              (try simp only [hl139000_34])
              (try simp only [hl139000_34] at BK130)
              (try simp only [hl139000_34] at BK138)
              (try simp only [hl139000_34] at BK150)
              (try simp only [hl139000_34] at HO_131000)
              (try simp only [hl139000_34] at HO_151000)
              cases kq with
              | zero => exact absurd HA.out (by simp [laws_FnExactHeapNew.j1])
              | succ kj34 =>
                have H := HA.out
                clear HA
                simp only [laws_FnExactHeapNew.j1] at H
                by_cases c61 : x54_34 = true
                · subst c61
                  have H1 : (some false) = some r := by rw [if_pos rfl] at H; exact H
                  clear H
                  have H := H1
                  clear H1
                  obtain rfl := Option.some.inj H
                  go_wp2
                  go_ret
                  exact ⟨by first | rfl | (simp [errW_none, errW_some] <;> rfl) | (simp [*, errW_none, errW_some] <;> rfl), by repeat (first | (with_reducible first | exact HB.out | apply below_alloc | apply pw_below_drewN | apply below_drew1 | refine below_set ?_ GE130.out | refine below_set ?_ GE138.out | refine below_set ?_ GE150.out) | exact HB.out)⟩
                · replace c61 := Bool.eq_false_iff.mpr c61
                  subst c61
                  have H1 : ((laws_heldHeap.f kj34 t141 t134 t135 t136 1).bind fun t152 => (if t152 < 0 then (some false) else (if t152 = t140 then (some true) else (some false)))) = some r := by rw [if_neg (show ¬ (false = true) by decide)] at H; exact H
                  clear H
                  have H := H1
                  clear H1
                  replace H := Option.bind_eq_some_iff.mp H
                  obtain ⟨t152, A620, H⟩ := H
                  replace H : (if t152 < 0 then (some false) else (if t152 = t140 then (some true) else (some false))) = some r := H
                  have A62 := Aside0.mk A620
                  clear A620
                  by_cases c63 : t152 < 0
                  · rw [if_pos c63] at H
                    have c63b0 : decide (t152 < 0) = true := decide_eq_true c63
                    clear c63
                    obtain rfl := Option.some.inj H
                    have hnb64 := NB138_130.out
                    have hnc64 := NB130_138.out
                    have hnb65 := NB138_150.out
                    have hnc65 := NB150_138.out
                    have hcz66_0 : wc.cell? ⟨gb138, 0, none⟩ = some (.slice Ao11 t141.length co11) := (blk_cell BK138.out 0).trans rfl
                    have hcz66_1 : wc.cell? ⟨gb138, 1, none⟩ = some (.int .i64 t134) := (blk_cell BK138.out 1).trans rfl
                    have hcz66_2 : wc.cell? ⟨gb138, 2, none⟩ = some (.int .i64 t135) := (blk_cell BK138.out 2).trans rfl
                    have hcz66_3 : wc.cell? ⟨gb138, 3, none⟩ = some (.int .i64 t136) := (blk_cell BK138.out 3).trans rfl
                    have hfz66_0 := blk_frozen BK138.out 0
                    have hfz66_1 := blk_frozen BK138.out 1
                    have hfz66_2 := blk_frozen BK138.out 2
                    have hfz66_3 := blk_frozen BK138.out 3
                    go_wp2_with (first | ((with_reducible refine gate_callee (f := 40) rfl ?_); refine goesL_ (some 57) rfl rfl Try.func40 (by kernel_rfl) rfl #[.agg #[.slice Ao11 t141.length co11, .int .i64 t134, .int .i64 t135, .int .i64 t136], .int .i64 1] rfl (by (try simp only [List.map_toArray, List.map_cons, List.map_nil]); first | done | rfl | (simp only [List.length_drop, List.length_take]; rfl)) ?_; (with_reducible refine (laws_heldHeap.calls kj34 _ _ t141 t134 t135 t136 1 t152 _ ?side1 ?side2 A62.out).mono ?_); (case side1 => repeat (first | exact (Kd.R_reads' HO_139000.out).2.2 | (with_reducible refine Kd.C_alloc ?_ _) | (with_reducible refine Kd.C_drewN ?_ _) | (with_reducible refine Kd.C_drew ?_))); (case side2 => exact (Kd.R_reads' HO_139000.out).2.1); rintro e w67 ⟨rfl, hb⟩; refine ⟨_, rfl, ?_⟩; have n0_ := Aside0.mk (Kd.R_below (by (with_reducible repeat (first | apply Kd.R_alloc | apply Kd.R_drewN | apply Kd.R_drew)); exact HO_131000.out) hb); have n1_ := Aside0.mk (Kd.R_below (by (with_reducible repeat (first | apply Kd.R_alloc | apply Kd.R_drewN | apply Kd.R_drew)); exact HO_139000.out) hb); have n2_ := Aside0.mk (Kd.R_below (by (with_reducible repeat (first | apply Kd.R_alloc | apply Kd.R_drewN | apply Kd.R_drew)); exact HO_151000.out) hb); have n3_ := Aside0.mk (blk_below (g := gb130) (o := .cells #[.slice Ao7 t123.length co7, .int .i64 t126, .int .i64 t127, .int .i64 t128] 41 (0, 0)) (by (with_reducible repeat (first | refine blk_drewN ?_ _ | refine blk_drew ?_ | refine blk_alloc ?_ _)); exact BK130.out) hb); have n4_ := Aside0.mk (blk_below (g := gb138) (o := .cells #[.slice Ao11 t141.length co11, .int .i64 t134, .int .i64 t135, .int .i64 t136] 41 (0, 0)) (by (with_reducible repeat (first | refine blk_drewN ?_ _ | refine blk_drew ?_ | refine blk_alloc ?_ _)); exact BK138.out) hb); have n5_ := Aside0.mk (blk_below (g := gb150) (o := .cells #[.slice Ao43 t143.length co43, .int .i64 t146, .int .i64 t147, .int .i64 t148] 41 (0, 0)) (by (with_reducible repeat (first | refine blk_drewN ?_ _ | refine blk_drew ?_ | refine blk_alloc ?_ _)); exact BK150.out) hb); have n6_ := Aside0.mk (below_step (by repeat (first | (with_reducible first | exact HB.out | apply below_alloc | apply pw_below_drewN | apply below_drew1 | refine below_set ?_ GE130.out | refine below_set ?_ GE138.out | refine below_set ?_ GE150.out) | exact HB.out)) hb); clear HO_131000; clear HO_139000; clear HO_151000; clear BK130; clear BK138; clear BK150; clear HB; have HO_131000 := n0_; have HO_139000 := n1_; have HO_151000 := n2_; have BK130 := n3_; have BK138 := n4_; have BK150 := n5_; have HB := n6_; clear n0_ n1_ n2_ n3_ n4_ n5_ n6_; (try clear hb); (try clear hb2); (try clear hk); (try clear hi)))
                    go_ret
                    exact ⟨by first | rfl | (simp [errW_none, errW_some] <;> rfl) | (simp [*, errW_none, errW_some] <;> rfl), by repeat (first | (with_reducible first | exact HB.out | apply below_alloc | apply pw_below_drewN | apply below_drew1 | refine below_set ?_ GE130.out | refine below_set ?_ GE138.out | refine below_set ?_ GE150.out) | exact HB.out)⟩
                  · rw [if_neg c63] at H
                    have c63b0 : decide (t152 < 0) = false := decide_eq_false c63
                    clear c63
                    by_cases c68 : t152 = t140
                    · rw [if_pos c68] at H
                      have c68b0 : (t152 == t140) = true := beq_iff_eq.mpr c68
                      have c68b1 : (t152 != t140) = false := bne_eq_false_iff_eq.mpr c68
                      clear c68
                      obtain rfl := Option.some.inj H
                      have hnb69 := NB138_130.out
                      have hnc69 := NB130_138.out
                      have hnb70 := NB138_150.out
                      have hnc70 := NB150_138.out
                      have hcz71_0 : wc.cell? ⟨gb138, 0, none⟩ = some (.slice Ao11 t141.length co11) := (blk_cell BK138.out 0).trans rfl
                      have hcz71_1 : wc.cell? ⟨gb138, 1, none⟩ = some (.int .i64 t134) := (blk_cell BK138.out 1).trans rfl
                      have hcz71_2 : wc.cell? ⟨gb138, 2, none⟩ = some (.int .i64 t135) := (blk_cell BK138.out 2).trans rfl
                      have hcz71_3 : wc.cell? ⟨gb138, 3, none⟩ = some (.int .i64 t136) := (blk_cell BK138.out 3).trans rfl
                      have hfz71_0 := blk_frozen BK138.out 0
                      have hfz71_1 := blk_frozen BK138.out 1
                      have hfz71_2 := blk_frozen BK138.out 2
                      have hfz71_3 := blk_frozen BK138.out 3
                      go_wp2_with (first | ((with_reducible refine gate_callee (f := 40) rfl ?_); refine goesL_ (some 57) rfl rfl Try.func40 (by kernel_rfl) rfl #[.agg #[.slice Ao11 t141.length co11, .int .i64 t134, .int .i64 t135, .int .i64 t136], .int .i64 1] rfl (by (try simp only [List.map_toArray, List.map_cons, List.map_nil]); first | done | rfl | (simp only [List.length_drop, List.length_take]; rfl)) ?_; (with_reducible refine (laws_heldHeap.calls kj34 _ _ t141 t134 t135 t136 1 t152 _ ?side1 ?side2 A62.out).mono ?_); (case side1 => repeat (first | exact (Kd.R_reads' HO_139000.out).2.2 | (with_reducible refine Kd.C_alloc ?_ _) | (with_reducible refine Kd.C_drewN ?_ _) | (with_reducible refine Kd.C_drew ?_))); (case side2 => exact (Kd.R_reads' HO_139000.out).2.1); rintro e w72 ⟨rfl, hb⟩; refine ⟨_, rfl, ?_⟩; have n0_ := Aside0.mk (Kd.R_below (by (with_reducible repeat (first | apply Kd.R_alloc | apply Kd.R_drewN | apply Kd.R_drew)); exact HO_131000.out) hb); have n1_ := Aside0.mk (Kd.R_below (by (with_reducible repeat (first | apply Kd.R_alloc | apply Kd.R_drewN | apply Kd.R_drew)); exact HO_139000.out) hb); have n2_ := Aside0.mk (Kd.R_below (by (with_reducible repeat (first | apply Kd.R_alloc | apply Kd.R_drewN | apply Kd.R_drew)); exact HO_151000.out) hb); have n3_ := Aside0.mk (blk_below (g := gb130) (o := .cells #[.slice Ao7 t123.length co7, .int .i64 t126, .int .i64 t127, .int .i64 t128] 41 (0, 0)) (by (with_reducible repeat (first | refine blk_drewN ?_ _ | refine blk_drew ?_ | refine blk_alloc ?_ _)); exact BK130.out) hb); have n4_ := Aside0.mk (blk_below (g := gb138) (o := .cells #[.slice Ao11 t141.length co11, .int .i64 t134, .int .i64 t135, .int .i64 t136] 41 (0, 0)) (by (with_reducible repeat (first | refine blk_drewN ?_ _ | refine blk_drew ?_ | refine blk_alloc ?_ _)); exact BK138.out) hb); have n5_ := Aside0.mk (blk_below (g := gb150) (o := .cells #[.slice Ao43 t143.length co43, .int .i64 t146, .int .i64 t147, .int .i64 t148] 41 (0, 0)) (by (with_reducible repeat (first | refine blk_drewN ?_ _ | refine blk_drew ?_ | refine blk_alloc ?_ _)); exact BK150.out) hb); have n6_ := Aside0.mk (below_step (by repeat (first | (with_reducible first | exact HB.out | apply below_alloc | apply pw_below_drewN | apply below_drew1 | refine below_set ?_ GE130.out | refine below_set ?_ GE138.out | refine below_set ?_ GE150.out) | exact HB.out)) hb); clear HO_131000; clear HO_139000; clear HO_151000; clear BK130; clear BK138; clear BK150; clear HB; have HO_131000 := n0_; have HO_139000 := n1_; have HO_151000 := n2_; have BK130 := n3_; have BK138 := n4_; have BK150 := n5_; have HB := n6_; clear n0_ n1_ n2_ n3_ n4_ n5_ n6_; (try clear hb); (try clear hb2); (try clear hk); (try clear hi)))
                      go_ret
                      exact ⟨by first | rfl | (simp [errW_none, errW_some] <;> rfl) | (simp [*, errW_none, errW_some] <;> rfl), by repeat (first | (with_reducible first | exact HB.out | apply below_alloc | apply pw_below_drewN | apply below_drew1 | refine below_set ?_ GE130.out | refine below_set ?_ GE138.out | refine below_set ?_ GE150.out) | exact HB.out)⟩
                    · rw [if_neg c68] at H
                      have c68b0 : (t152 == t140) = false := beq_eq_false_iff_ne.mpr c68
                      have c68b1 : (t152 != t140) = true := bne_iff_ne.mpr c68
                      obtain rfl := Option.some.inj H
                      have hnb73 := NB138_130.out
                      have hnc73 := NB130_138.out
                      have hnb74 := NB138_150.out
                      have hnc74 := NB150_138.out
                      have hcz75_0 : wc.cell? ⟨gb138, 0, none⟩ = some (.slice Ao11 t141.length co11) := (blk_cell BK138.out 0).trans rfl
                      have hcz75_1 : wc.cell? ⟨gb138, 1, none⟩ = some (.int .i64 t134) := (blk_cell BK138.out 1).trans rfl
                      have hcz75_2 : wc.cell? ⟨gb138, 2, none⟩ = some (.int .i64 t135) := (blk_cell BK138.out 2).trans rfl
                      have hcz75_3 : wc.cell? ⟨gb138, 3, none⟩ = some (.int .i64 t136) := (blk_cell BK138.out 3).trans rfl
                      have hfz75_0 := blk_frozen BK138.out 0
                      have hfz75_1 := blk_frozen BK138.out 1
                      have hfz75_2 := blk_frozen BK138.out 2
                      have hfz75_3 := blk_frozen BK138.out 3
                      go_wp2_with (first | ((with_reducible refine gate_callee (f := 40) rfl ?_); refine goesL_ (some 57) rfl rfl Try.func40 (by kernel_rfl) rfl #[.agg #[.slice Ao11 t141.length co11, .int .i64 t134, .int .i64 t135, .int .i64 t136], .int .i64 1] rfl (by (try simp only [List.map_toArray, List.map_cons, List.map_nil]); first | done | rfl | (simp only [List.length_drop, List.length_take]; rfl)) ?_; (with_reducible refine (laws_heldHeap.calls kj34 _ _ t141 t134 t135 t136 1 t152 _ ?side1 ?side2 A62.out).mono ?_); (case side1 => repeat (first | exact (Kd.R_reads' HO_139000.out).2.2 | (with_reducible refine Kd.C_alloc ?_ _) | (with_reducible refine Kd.C_drewN ?_ _) | (with_reducible refine Kd.C_drew ?_))); (case side2 => exact (Kd.R_reads' HO_139000.out).2.1); rintro e w76 ⟨rfl, hb⟩; refine ⟨_, rfl, ?_⟩; have n0_ := Aside0.mk (Kd.R_below (by (with_reducible repeat (first | apply Kd.R_alloc | apply Kd.R_drewN | apply Kd.R_drew)); exact HO_131000.out) hb); have n1_ := Aside0.mk (Kd.R_below (by (with_reducible repeat (first | apply Kd.R_alloc | apply Kd.R_drewN | apply Kd.R_drew)); exact HO_139000.out) hb); have n2_ := Aside0.mk (Kd.R_below (by (with_reducible repeat (first | apply Kd.R_alloc | apply Kd.R_drewN | apply Kd.R_drew)); exact HO_151000.out) hb); have n3_ := Aside0.mk (blk_below (g := gb130) (o := .cells #[.slice Ao7 t123.length co7, .int .i64 t126, .int .i64 t127, .int .i64 t128] 41 (0, 0)) (by (with_reducible repeat (first | refine blk_drewN ?_ _ | refine blk_drew ?_ | refine blk_alloc ?_ _)); exact BK130.out) hb); have n4_ := Aside0.mk (blk_below (g := gb138) (o := .cells #[.slice Ao11 t141.length co11, .int .i64 t134, .int .i64 t135, .int .i64 t136] 41 (0, 0)) (by (with_reducible repeat (first | refine blk_drewN ?_ _ | refine blk_drew ?_ | refine blk_alloc ?_ _)); exact BK138.out) hb); have n5_ := Aside0.mk (blk_below (g := gb150) (o := .cells #[.slice Ao43 t143.length co43, .int .i64 t146, .int .i64 t147, .int .i64 t148] 41 (0, 0)) (by (with_reducible repeat (first | refine blk_drewN ?_ _ | refine blk_drew ?_ | refine blk_alloc ?_ _)); exact BK150.out) hb); have n6_ := Aside0.mk (below_step (by repeat (first | (with_reducible first | exact HB.out | apply below_alloc | apply pw_below_drewN | apply below_drew1 | refine below_set ?_ GE130.out | refine below_set ?_ GE138.out | refine below_set ?_ GE150.out) | exact HB.out)) hb); clear HO_131000; clear HO_139000; clear HO_151000; clear BK130; clear BK138; clear BK150; clear HB; have HO_131000 := n0_; have HO_139000 := n1_; have HO_151000 := n2_; have BK130 := n3_; have BK138 := n4_; have BK150 := n5_; have HB := n6_; clear n0_ n1_ n2_ n3_ n4_ n5_ n6_; (try clear hb); (try clear hb2); (try clear hk); (try clear hi)))
                      go_ret
                      exact ⟨by first | rfl | (simp [errW_none, errW_some] <;> rfl) | (simp [*, errW_none, errW_some] <;> rfl), by repeat (first | (with_reducible first | exact HB.out | apply below_alloc | apply pw_below_drewN | apply below_drew1 | refine below_set ?_ GE130.out | refine below_set ?_ GE138.out | refine below_set ?_ GE150.out) | exact HB.out)⟩
          · rw [if_neg c33] at H
            have c33b0 : (t142 == t140) = false := beq_eq_false_iff_ne.mpr c33
            have c33b1 : (t142 != t140) = true := bne_iff_ne.mpr c33
            obtain rfl := Option.some.inj H
            have hnb77 := NB138_130.out
            have hnc77 := NB130_138.out
            have hcz78_0 : wc.cell? ⟨gb138, 0, none⟩ = some (.slice Ao11 t131.length co11) := (blk_cell BK138.out 0).trans rfl
            have hcz78_1 : wc.cell? ⟨gb138, 1, none⟩ = some (.int .i64 t134) := (blk_cell BK138.out 1).trans rfl
            have hcz78_2 : wc.cell? ⟨gb138, 2, none⟩ = some (.int .i64 t135) := (blk_cell BK138.out 2).trans rfl
            have hcz78_3 : wc.cell? ⟨gb138, 3, none⟩ = some (.int .i64 t136) := (blk_cell BK138.out 3).trans rfl
            have hfz78_0 := blk_frozen BK138.out 0
            have hfz78_1 := blk_frozen BK138.out 1
            have hfz78_2 := blk_frozen BK138.out 2
            have hfz78_3 := blk_frozen BK138.out 3
            go_wp2_with (first | ((with_reducible refine gate_callee (f := 39) rfl ?_); refine goesL_ (some 32) rfl rfl Try.func39 (by kernel_rfl) rfl #[.agg #[.slice Ao11 t131.length co11, .int .i64 t134, .int .i64 t135, .int .i64 t136], .int .i64 1] rfl (by (try simp only [List.map_toArray, List.map_cons, List.map_nil]); first | done | rfl | (simp only [List.length_drop, List.length_take]; rfl)) ?_; (with_reducible refine (laws_markHeap.calls kj3 (fun k_ => some k_ = (.slice Ao11 t131.length co11 : Value).ownBlock) (.slice Ao11 t131.length co11) t131 t134 t135 t136 1 t140 t141 w _ ?side1 ?side2 A25.out).mono ?_); (case side1 => repeat (first | (with_reducible first | exact HB.out | apply below_alloc | apply pw_below_drewN | apply below_drew1 | refine below_set ?_ GE130.out | refine below_set ?_ GE138.out) | exact HB.out)); (case side2 => exact Kd.R_tight rfl HO_139000.out); rintro e w79 ⟨rfl, hy0, hb, hkp⟩; refine ⟨_, rfl, ?_⟩; have n0_ := Aside0.mk (Kd.R_mono (ok' := fun k_ => some k_ ≠ (.slice Ao11 t131.length co11 : Value).ownBlock) (Kd.R_keptB (HO_131000.out) hkp (fun k_ hk_ hs_ => (hk_) hs_)) (fun k_ hk_ => hk_.1)); have n1_ := Aside0.mk (Kd.R_reok rfl hy0 (fun k_ e_ => HO_139000.out.1 k_ e_)); have n2_ := Aside0.mk (blk_kept (by (with_reducible repeat (first | refine blk_drewN ?_ _ | refine blk_drew ?_ | refine blk_alloc ?_ _)); exact BK130.out) hkp (fun hs_ => (fun e_ => (Kd.R_ne HO_139000.out BK130.out (by decide)) e_) hs_)); have n3_ := Aside0.mk (blk_kept (by (with_reducible repeat (first | refine blk_drewN ?_ _ | refine blk_drew ?_ | refine blk_alloc ?_ _)); exact BK138.out) hkp (fun hs_ => (fun e_ => (Kd.R_ne HO_139000.out BK138.out (by decide)) e_) hs_)); have n4_ := Aside0.mk (hb); clear HO_131000; clear HO_139000; clear BK130; clear BK138; clear HB; have HO_131000 := n0_; have HO_139000 := n1_; have BK130 := n2_; have BK138 := n3_; have HB := n4_; clear n0_ n1_ n2_ n3_ n4_; (try clear hb); (try clear hkp); (try clear hy0); have hcz80_0 : w79.cell? ⟨gb138, 0, none⟩ = some (.slice Ao11 t131.length co11) := (blk_cell BK138.out 0).trans rfl; have hcz80_1 : w79.cell? ⟨gb138, 1, none⟩ = some (.int .i64 t134) := (blk_cell BK138.out 1).trans rfl; have hcz80_2 : w79.cell? ⟨gb138, 2, none⟩ = some (.int .i64 t135) := (blk_cell BK138.out 2).trans rfl; have hcz80_3 : w79.cell? ⟨gb138, 3, none⟩ = some (.int .i64 t136) := (blk_cell BK138.out 3).trans rfl; have hfz80_0 := blk_frozen BK138.out 0; have hfz80_1 := blk_frozen BK138.out 1; have hfz80_2 := blk_frozen BK138.out 2; have hfz80_3 := blk_frozen BK138.out 3) | ((with_reducible refine gate_callee (f := 40) rfl ?_); refine goesL_ (some 35) rfl rfl Try.func40 (by kernel_rfl) rfl #[.agg #[.slice Ao11 t141.length co11, .int .i64 t134, .int .i64 t135, .int .i64 t136], .int .i64 1] rfl (by (try simp only [List.map_toArray, List.map_cons, List.map_nil]); first | done | (rw [show t141.length = t131.length from (Kd.R_reads' HO_139000.out).1.symm] <;> rfl) | rfl | (simp only [List.length_drop, List.length_take]; rfl)) ?_; (with_reducible refine (laws_heldHeap.calls kj3 _ _ t141 t134 t135 t136 1 t142 _ ?side1 ?side2 A26.out).mono ?_); (case side1 => repeat (first | exact (Kd.R_reads' HO_139000.out).2.2 | (with_reducible refine Kd.C_alloc ?_ _) | (with_reducible refine Kd.C_drewN ?_ _) | (with_reducible refine Kd.C_drew ?_))); (case side2 => rw [show t141.length = t131.length from (Kd.R_reads' HO_139000.out).1.symm]; exact (Kd.R_reads' HO_139000.out).2.1); rintro e w81 ⟨rfl, hb⟩; refine ⟨_, rfl, ?_⟩; have n0_ := Aside0.mk (Kd.R_below (by (with_reducible repeat (first | apply Kd.R_alloc | apply Kd.R_drewN | apply Kd.R_drew)); exact HO_131000.out) hb); have n1_ := Aside0.mk (Kd.R_below (by (with_reducible repeat (first | apply Kd.R_alloc | apply Kd.R_drewN | apply Kd.R_drew)); exact HO_139000.out) hb); have n2_ := Aside0.mk (blk_below (g := gb130) (o := .cells #[.slice Ao7 t123.length co7, .int .i64 t126, .int .i64 t127, .int .i64 t128] 41 (0, 0)) (by (with_reducible repeat (first | refine blk_drewN ?_ _ | refine blk_drew ?_ | refine blk_alloc ?_ _)); exact BK130.out) hb); have n3_ := Aside0.mk (blk_below (g := gb138) (o := .cells #[.slice Ao11 t131.length co11, .int .i64 t134, .int .i64 t135, .int .i64 t136] 41 (0, 0)) (by (with_reducible repeat (first | refine blk_drewN ?_ _ | refine blk_drew ?_ | refine blk_alloc ?_ _)); exact BK138.out) hb); have n4_ := Aside0.mk (below_step (by repeat (first | (with_reducible first | exact HB.out | apply below_alloc | apply pw_below_drewN | apply below_drew1 | refine below_set ?_ GE130.out | refine below_set ?_ GE138.out) | exact HB.out)) hb); clear HO_131000; clear HO_139000; clear BK130; clear BK138; clear HB; have HO_131000 := n0_; have HO_139000 := n1_; have BK130 := n2_; have BK138 := n3_; have HB := n4_; clear n0_ n1_ n2_ n3_ n4_; (try clear hb); (try clear hb2); (try clear hk); (try clear hi)))
            go_ret
            exact ⟨by first | rfl | (simp [errW_none, errW_some] <;> rfl) | (simp [*, errW_none, errW_some] <;> rfl), by repeat (first | (with_reducible first | exact HB.out | apply below_alloc | apply pw_below_drewN | apply below_drew1 | refine below_set ?_ GE130.out | refine below_set ?_ GE138.out) | exact HB.out)⟩

/-- THE ONE PURE STATEMENT of laws_FnExactHeapNew: yours. -/
def laws_FnExactHeapNew.Pure : Prop := ∀ (a0 : Int), (Lit.int .i64 a0).wf = true → ∃ k, laws_FnExactHeapNew.f k a0 = some true
theorem laws_FnExactHeapNew.walk (P : laws_FnExactHeapNew.Pure) (a0 : Int) (w : World) (w0 : (Lit.int .i64 a0).wf = true) :
    Calls Try.prog 11 #[.int .i64 a0] w fun e w' => e = .returned (.bool true) ∧ Below w.heap.size w w' := by
  obtain ⟨k, h⟩ := P a0 w0
  refine (laws_FnExactHeapNew.calls k a0 true w h).mono ?_
  rintro e w' ⟨rfl, hd⟩
  exact ⟨rfl, hd⟩

end Go.Proofs.Ytmoaonpggckbiaa.PFnExactHeapNew
