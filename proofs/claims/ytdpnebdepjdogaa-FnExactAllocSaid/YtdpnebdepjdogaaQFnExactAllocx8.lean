/- Go functions that the law FnExactAlloc comes to: for each the Lean function that it computes, and the proof that its call does so. No conditions beyond those that each names. -/
import Derived.Test.YtdpnebdepjdogaaQFnExactAllocx0
import Derived.Test.YtdpnebdepjdogaaQFnExactAllocx5
import Derived.Test.YtdpnebdepjdogaaQFnExactAllocx7
namespace Go.Proofs.Ytdpnebdepjdogaa.QFnExactAlloc
open Go.RowKit Go.Proofs.YtdpnebdepjdogaaW.PrintWords Go.Proofs.YtdpnebdepjdogaaW.PrintLast Go.Proofs.YtdpnebdepjdogaaW.PrintMore
attribute [local go_sem] max2_int min2_int max_two min_two max_three min_three max_four min_four   -- for this text's walks alone
set_option linter.unusedVariables false
set_option linter.unusedSimpArgs false

/-! ### impl_Alloc: function 25 -/
mutual
def impl_Alloc.j0 : Nat → Bool → Int → List Int → Bool → List Int → Int → Int → Int → List Int → Int → Int → Int → Option (List Int × Int × Int × Int × Int × Bool)
  | 0, _, _, _, _, _, _, _, _, _, _, _, _ => none
  | k + 1, x1, x2, x3, x35, x274000, x274001, x274002, x274003, x282000, x282001, x282002, x282003 => if x35 = true then (some (x282000, x282001, x282002, x282003, 0, false)) else (if x1 = true then (impl_Alloc.j1 k x3 (wrap64 ((wrap64 (2 * (wrap64 ((wrap64 (64 * x2)) + (x3.length : Int))))) + 1)) x274000 x274001 x274002 x274003 x282000 x282001 x282002 x282003) else (impl_Alloc.j1 k x3 (wrap64 (2 * (wrap64 ((wrap64 (64 * x2)) + (x3.length : Int))))) x274000 x274001 x274002 x274003 x282000 x282001 x282002 x282003))
def impl_Alloc.j1 : Nat → List Int → Int → List Int → Int → Int → Int → List Int → Int → Int → Int → Option (List Int × Int × Int × Int × Int × Bool)
  | 0, _, _, _, _, _, _, _, _, _, _ => none
  | k + 1, x3, x12, x274000, x274001, x274002, x274003, x282000, x282001, x282002, x282003 => (impl_IntWord.f x12).bind fun t285 => (if 0 ≤ x274003 then (if x274003 < (x282000.length : Int) then (if 0 ≤ (wrap64 (x274003 + 1)) then (if (wrap64 (x274003 + 1)) ≤ (x282000.length : Int) then ((some (copyAt (x282000.set (x274003 : Int).toNat t285) ((wrap64 (x274003 + 1)) : Int).toNat x3 : List Int)).bind fun y291 => ((impl_HeapOk.f k y291 x282001 x282002 (wrap64 (x282003 + (wrap64 (1 + (x3.length : Int)))))).bind fun t292 => (if t292 = true then (some (y291, x282001, x282002, wrap64 (x282003 + (wrap64 (1 + (x3.length : Int)))), x274003, true)) else ((impl_copyHeap.f x274000 x274001 x274002 x274003).bind fun bt293 => (some (bt293.1, bt293.2.1, bt293.2.2.1, bt293.2.2.2, 0, false)))))) else (none)) else (none)) else (none)) else (none))
end
def impl_Alloc.f (k : Nat) (l0_0 : List Int) (a0_1 : Int) (a0_2 : Int) (a0_3 : Int) (a1 : Bool) (a2 : Int) (l3 : List Int) : Option (List Int × Int × Int × Int × Int × Bool) := (impl_copyHeap.f l0_0 a0_1 a0_2 a0_3).bind fun bt275 => ((impl_HeapOk.f k l0_0 a0_1 a0_2 a0_3).bind fun t282 => (if t282 = true then ((impl_within.f a2 0 3000).bind fun t283 => (if t283 = true then (if (l3.length : Int) > 20 then (impl_Alloc.j0 k a1 a2 l3 true l0_0 a0_1 a0_2 a0_3 bt275.1 bt275.2.1 bt275.2.2.1 bt275.2.2.2) else ((impl_Room.f k l0_0 a0_1 a0_2 a0_3).bind fun t284 => (impl_Alloc.j0 k a1 a2 l3 (decide ((wrap64 ((l3.length : Int) + 1)) > t284)) l0_0 a0_1 a0_2 a0_3 bt275.1 bt275.2.1 bt275.2.2.1 bt275.2.2.2))) else (impl_Alloc.j0 k a1 a2 l3 true l0_0 a0_1 a0_2 a0_3 bt275.1 bt275.2.1 bt275.2.2.1 bt275.2.2.2))) else (impl_Alloc.j0 k a1 a2 l3 true l0_0 a0_1 a0_2 a0_3 bt275.1 bt275.2.1 bt275.2.2.1 bt275.2.2.2)))
theorem impl_Alloc.mono_l : ∀ k, (∀ y0 y1 y2 y3 y4 y5 y6 y7 y8 y9 y10 y11, LeO (impl_Alloc.j0 k y0 y1 y2 y3 y4 y5 y6 y7 y8 y9 y10 y11) (impl_Alloc.j0 (k + 1) y0 y1 y2 y3 y4 y5 y6 y7 y8 y9 y10 y11)) ∧ (∀ y0 y1 y2 y3 y4 y5 y6 y7 y8 y9, LeO (impl_Alloc.j1 k y0 y1 y2 y3 y4 y5 y6 y7 y8 y9) (impl_Alloc.j1 (k + 1) y0 y1 y2 y3 y4 y5 y6 y7 y8 y9))
  | 0 => ⟨fun _ _ _ _ _ _ _ _ _ _ _ _ r h => by simp [impl_Alloc.j0] at h, fun _ _ _ _ _ _ _ _ _ _ r h => by simp [impl_Alloc.j1] at h⟩
  | k + 1 => by
    obtain ⟨ih0, ih1⟩ := impl_Alloc.mono_l k
    refine ⟨?_, ?_⟩
    · intro y0 y1 y2 y3 y4 y5 y6 y7 y8 y9 y10 y11
      unfold impl_Alloc.j0
      repeat' first
      | (with_reducible exact ih0 _ _ _ _ _ _ _ _ _ _ _ _)
      | (with_reducible exact ih1 _ _ _ _ _ _ _ _ _ _)
      | (with_reducible exact impl_HeapOk.mono _ _ _ _ _)
      | (with_reducible exact impl_Room.mono _ _ _ _ _)
      | (with_reducible exact LeO.refl _)
      | (with_reducible exact LeO.none _)
      | (with_reducible refine LeO.ite ?_ ?_)
      | (with_reducible refine LeO.bind ?_ (fun _ => ?_))
      | exact ih0 _ _ _ _ _ _ _ _ _ _ _ _
      | exact ih1 _ _ _ _ _ _ _ _ _ _
      | exact impl_HeapOk.mono _ _ _ _ _
      | exact impl_Room.mono _ _ _ _ _
      | exact LeO.none _
      | refine LeO.ite ?_ ?_
      | refine LeO.bind ?_ (fun _ => ?_)
    · intro y0 y1 y2 y3 y4 y5 y6 y7 y8 y9
      unfold impl_Alloc.j1
      repeat' first
      | (with_reducible exact ih0 _ _ _ _ _ _ _ _ _ _ _ _)
      | (with_reducible exact ih1 _ _ _ _ _ _ _ _ _ _)
      | (with_reducible exact impl_HeapOk.mono _ _ _ _ _)
      | (with_reducible exact impl_Room.mono _ _ _ _ _)
      | (with_reducible exact LeO.refl _)
      | (with_reducible exact LeO.none _)
      | (with_reducible refine LeO.ite ?_ ?_)
      | (with_reducible refine LeO.bind ?_ (fun _ => ?_))
      | exact ih0 _ _ _ _ _ _ _ _ _ _ _ _
      | exact ih1 _ _ _ _ _ _ _ _ _ _
      | exact impl_HeapOk.mono _ _ _ _ _
      | exact impl_Room.mono _ _ _ _ _
      | exact LeO.none _
      | refine LeO.ite ?_ ?_
      | refine LeO.bind ?_ (fun _ => ?_)
theorem impl_Alloc.mono : ∀ a0 a1 a2 a3 a4 a5 a6 k, LeO (impl_Alloc.f k a0 a1 a2 a3 a4 a5 a6) (impl_Alloc.f (k + 1) a0 a1 a2 a3 a4 a5 a6) := by
  intro a0 a1 a2 a3 a4 a5 a6 k
  obtain ⟨ih0, ih1⟩ := impl_Alloc.mono_l k
  unfold impl_Alloc.f
  repeat' first
      | (with_reducible exact ih0 _ _ _ _ _ _ _ _ _ _ _ _)
      | (with_reducible exact ih1 _ _ _ _ _ _ _ _ _ _)
      | (with_reducible exact impl_HeapOk.mono _ _ _ _ _)
      | (with_reducible exact impl_Room.mono _ _ _ _ _)
      | (with_reducible exact LeO.refl _)
      | (with_reducible exact LeO.none _)
      | (with_reducible refine LeO.ite ?_ ?_)
      | (with_reducible refine LeO.bind ?_ (fun _ => ?_))
      | exact ih0 _ _ _ _ _ _ _ _ _ _ _ _
      | exact ih1 _ _ _ _ _ _ _ _ _ _
      | exact impl_HeapOk.mono _ _ _ _ _
      | exact impl_Room.mono _ _ _ _ _
      | exact LeO.none _
      | refine LeO.ite ?_ ?_
      | refine LeO.bind ?_ (fun _ => ?_)
def impl_Alloc.T7 : Bool × List (List Nat × List Nat) := (true, [([], []), ([0], [0]), ([], []), ([2], [2]), ([], []), ([4], [4]), ([1, 3, 0, 1, 2, 3, 4, 5], [1, 3]), ([6, 5, 5, 0, 1, 2, 3, 4, 5], [5, 6])])
def impl_Alloc.B7 : List Nat := [0, 1, 0, 4, 0, 16, 63, 127]
theorem impl_Alloc.tab7 : rtab .any (opsOf Try.f25 7) = impl_Alloc.T7 := by kernel_rfl
theorem impl_Alloc.bits7 : waitsOk impl_Alloc.T7.2 impl_Alloc.B7 = true := by kernel_rfl
set_option maxHeartbeats 8000000 in
set_option maxRecDepth 100000 in
theorem impl_Alloc.calls (k : Nat) (A0_0 : Option Addr) (c0_0 : Nat) (l0_0 : List Int) (a0_1 : Int) (a0_2 : Int) (a0_3 : Int) (a1 : Bool) (a2 : Int) (A3 : Option Addr) (c3 : Nat) (l3 : List Int) (r1 : List Int) (r2 : Int) (r3 : Int) (r4 : Int) (r5 : Int) (r6 : Bool) (w : World) (hr0_0 : Kd.C (Kd.int .i64) w A0_0 l0_0.length l0_0) (hc0_0 : l0_0.length ≤ c0_0) (hr3 : Kd.C (Kd.int .i64) w A3 l3.length l3) (hc3 : l3.length ≤ c3) (h : impl_Alloc.f k l0_0 a0_1 a0_2 a0_3 a1 a2 l3 = some (r1, r2, r3, r4, r5, r6)) :
    Calls Try.prog 25 #[.agg #[.slice A0_0 l0_0.length c0_0, .int .i64 a0_1, .int .i64 a0_2, .int .i64 a0_3], .bool a1, .int .i64 a2, .slice A3 l3.length c3] w fun e w' => ∃ v0_ : Value, e = .returned (.tuple #[.agg #[v0_, .int .i64 r2, .int .i64 r3, .int .i64 r4], .int .i64 r5, .bool r6]) ∧ Kd.R (Kd.int .i64) 3 w' w.heap.size (fun _ => True) v0_ r1 ∧ Below w.heap.size w w' := by
  have hu27 := Try.underlying27
  have HR0_0 := Aside0.mk hr0_0
  have HC0_0 := Aside0.mk hc0_0
  clear hr0_0 hc0_0
  have HR3 := Aside0.mk hr3
  have HC3 := Aside0.mk hc3
  clear hr3 hc3
  have HB := Aside0.mk (Below.refl w.heap.size w)
  have H : ((impl_copyHeap.f l0_0 a0_1 a0_2 a0_3).bind fun bt275 => ((impl_HeapOk.f k l0_0 a0_1 a0_2 a0_3).bind fun t282 => (if t282 = true then ((impl_within.f a2 0 3000).bind fun t283 => (if t283 = true then (if (l3.length : Int) > 20 then (impl_Alloc.j0 k a1 a2 l3 true l0_0 a0_1 a0_2 a0_3 bt275.1 bt275.2.1 bt275.2.2.1 bt275.2.2.2) else ((impl_Room.f k l0_0 a0_1 a0_2 a0_3).bind fun t284 => (impl_Alloc.j0 k a1 a2 l3 (decide ((wrap64 ((l3.length : Int) + 1)) > t284)) l0_0 a0_1 a0_2 a0_3 bt275.1 bt275.2.1 bt275.2.2.1 bt275.2.2.2))) else (impl_Alloc.j0 k a1 a2 l3 true l0_0 a0_1 a0_2 a0_3 bt275.1 bt275.2.1 bt275.2.2.1 bt275.2.2.2))) else (impl_Alloc.j0 k a1 a2 l3 true l0_0 a0_1 a0_2 a0_3 bt275.1 bt275.2.1 bt275.2.2.1 bt275.2.2.2)))) = some (r1, r2, r3, r4, r5, r6) := h
  clear h
  replace H := Option.bind_eq_some_iff.mp H
  obtain ⟨⟨t275, t278, t279, t280⟩, A50, H⟩ := H
  replace H : ((impl_HeapOk.f k l0_0 a0_1 a0_2 a0_3).bind fun t282 => (if t282 = true then ((impl_within.f a2 0 3000).bind fun t283 => (if t283 = true then (if (l3.length : Int) > 20 then (impl_Alloc.j0 k a1 a2 l3 true l0_0 a0_1 a0_2 a0_3 t275 t278 t279 t280) else ((impl_Room.f k l0_0 a0_1 a0_2 a0_3).bind fun t284 => (impl_Alloc.j0 k a1 a2 l3 (decide ((wrap64 ((l3.length : Int) + 1)) > t284)) l0_0 a0_1 a0_2 a0_3 t275 t278 t279 t280))) else (impl_Alloc.j0 k a1 a2 l3 true l0_0 a0_1 a0_2 a0_3 t275 t278 t279 t280))) else (impl_Alloc.j0 k a1 a2 l3 true l0_0 a0_1 a0_2 a0_3 t275 t278 t279 t280))) = some (r1, r2, r3, r4, r5, r6) := H
  have A5 := Aside0.mk A50
  clear A50
  have HC6 := Aside0.mk H
  clear H
  go_enter Try.func25, Try.ntmps25
  go_upto_region 2 with (first | ((with_reducible refine gate_dst (N := 4) rfl ?_); (try (refine gate_guard (by rfl) ?_; dsimp only)); refine box_event ?hg (N := 4) ?hd (cs := #[.slice A0_0 l0_0.length c0_0, .int .i64 a0_1, .int .i64 a0_2, .int .i64 a0_3]) (t := 27) ?hr ?_; (case hd => rfl); (case hg => rfl); (case hr => first | (go_simp; done) | (go_simp; rfl)); intro gb273 hg w7 hbox hb; have n0_ := Aside0.mk (below_step (by repeat (first | (with_reducible first | exact HB.out | apply below_alloc | apply pw_below_drewN | apply below_drew1) | exact HB.out)) hb); have n1_ := Aside0.mk (hbox); have n2_ := Aside0.mk ((by rw [hg]; exact (below_size (by repeat (first | (with_reducible first | exact HB.out | apply below_alloc | apply pw_below_drewN | apply below_drew1) | exact HB.out))) : w.heap.size ≤ gb273)); have n3_ := Aside0.mk ((by rw [hg]; exact (below_size (by repeat (first | (with_reducible first | exact HB.out | apply below_alloc | apply pw_below_drewN | apply below_drew1) | exact HB.out))) : w.heap.size ≤ gb273)); clear HB; have HB := n0_; have BK273 := n1_; have GW273 := n2_; have GE273 := n3_; clear n0_ n1_ n2_ n3_; clear hb hbox hg) | ((with_reducible refine gate_dst (N := 8) rfl ?_); (try (refine gate_guard (by rfl) ?_; dsimp only)); refine box_event ?hg (N := 8) ?hd (cs := #[.slice none 0 0, .int .i64 0, .int .i64 0, .int .i64 0]) (t := 27) ?hr ?_; (case hd => rfl); (case hg => rfl); (case hr => first | (go_simp; done) | (go_simp; rfl)); intro gb274 hg w8 hbox hb; have n0_ := Aside0.mk (blk_below (g := gb273) (o := .cells #[.slice A0_0 l0_0.length c0_0, .int .i64 a0_1, .int .i64 a0_2, .int .i64 a0_3] 27 (0, 0)) (by (with_reducible repeat (first | refine blk_drewN ?_ _ | refine blk_drew ?_ | refine blk_alloc ?_ _)); exact BK273.out) hb); have n1_ := Aside0.mk (below_step (by repeat (first | (with_reducible first | exact HB.out | apply below_alloc | apply pw_below_drewN | apply below_drew1 | refine below_set ?_ GE273.out) | exact HB.out)) hb); have n2_ := Aside0.mk (hbox); have n3_ := Aside0.mk ((by rw [hg]; exact (below_size (by repeat (first | (with_reducible first | exact HB.out | apply below_alloc | apply pw_below_drewN | apply below_drew1 | refine below_set ?_ GE273.out) | exact HB.out))) : w.heap.size ≤ gb274)); have n4_ := Aside0.mk ((by rw [hg]; exact (below_size (by repeat (first | (with_reducible first | exact HB.out | apply below_alloc | apply pw_below_drewN | apply below_drew1 | refine below_set ?_ GE273.out) | exact HB.out))) : w.heap.size ≤ gb274)); have n5_ := Aside0.mk ((by rw [hg]; exact Nat.ne_of_lt (blk_lt (g := gb273) (o := .cells #[.slice A0_0 l0_0.length c0_0, .int .i64 a0_1, .int .i64 a0_2, .int .i64 a0_3] 27 (0, 0)) (by (with_reducible repeat (first | refine blk_drewN ?_ _ | refine blk_drew ?_ | refine blk_alloc ?_ _)); exact BK273.out)) : gb273 ≠ gb274)); have n6_ := Aside0.mk ((by rw [hg]; exact Nat.ne_of_gt (blk_lt (g := gb273) (o := .cells #[.slice A0_0 l0_0.length c0_0, .int .i64 a0_1, .int .i64 a0_2, .int .i64 a0_3] 27 (0, 0)) (by (with_reducible repeat (first | refine blk_drewN ?_ _ | refine blk_drew ?_ | refine blk_alloc ?_ _)); exact BK273.out)) : gb274 ≠ gb273)); clear BK273; clear HB; have BK273 := n0_; have HB := n1_; have BK274 := n2_; have GW274 := n3_; have GE274 := n4_; have NB273_274 := n5_; have NB274_273 := n6_; clear n0_ n1_ n2_ n3_ n4_ n5_ n6_; clear hb hbox hg; have hnb9 := NB273_274.out; have hnc9 := NB274_273.out; have hcz10_0 : w8.cell? ⟨gb273, 0, none⟩ = some (.slice A0_0 l0_0.length c0_0) := (blk_cell BK273.out 0).trans rfl; have hcz10_1 : w8.cell? ⟨gb273, 1, none⟩ = some (.int .i64 a0_1) := (blk_cell BK273.out 1).trans rfl; have hcz10_2 : w8.cell? ⟨gb273, 2, none⟩ = some (.int .i64 a0_2) := (blk_cell BK273.out 2).trans rfl; have hcz10_3 : w8.cell? ⟨gb273, 3, none⟩ = some (.int .i64 a0_3) := (blk_cell BK273.out 3).trans rfl; have hfz10_0 := blk_frozen BK273.out 0; have hfz10_1 := blk_frozen BK273.out 1; have hfz10_2 := blk_frozen BK273.out 2; have hfz10_3 := blk_frozen BK273.out 3) | ((with_reducible refine gate_callee (f := 63) rfl ?_); refine goesL_ (some 14) rfl rfl Try.func63 (by kernel_rfl) rfl #[.agg #[.slice A0_0 l0_0.length c0_0, .int .i64 a0_1, .int .i64 a0_2, .int .i64 a0_3]] rfl (by (try simp only [List.map_toArray, List.map_cons, List.map_nil]); first | done | rfl | (simp only [List.length_drop, List.length_take]; rfl)) ?_; (with_reducible refine (impl_copyHeap.calls _ _ l0_0 a0_1 a0_2 a0_3 t275 t278 t279 t280 _ ?side1 ?side2 A5.out).mono ?_); (case side1 => repeat (first | exact (Kd.C_below HR0_0.out HB.out) | (with_reducible refine Kd.C_alloc ?_ _) | (with_reducible refine Kd.C_drewN ?_ _) | (with_reducible refine Kd.C_drew ?_))); (case side2 => exact HC0_0.out); rintro e w11 ⟨v276, rfl, ho0, hb⟩; refine ⟨_, rfl, ?_⟩; have st_v276 : ∀ a_ m_ (w_ : World), (store a_ v276 m_).run Try.prog w_ = stored Try.prog w_ a_ v276 m_ := fun a_ m_ w_ => run_store _ w_ a_ _ m_ (by first | (obtain ⟨_, _, e_⟩ := Kd.R_slice ho0; rw [e_]; rfl) | (obtain ⟨_, _, e_⟩ := Kd.V_slice ho0; rw [e_]; rfl) | (obtain ⟨_, _, e_⟩ := Kd.R_slice (Kd.S_R ho0); rw [e_]; rfl)); have n0_ := Aside0.mk (Kd.R_lower ho0 (below_size (by repeat (first | (with_reducible first | exact HB.out | apply below_alloc | apply pw_below_drewN | apply below_drew1 | refine below_set ?_ GE273.out | refine below_set ?_ GE274.out) | exact HB.out)))); have n1_ := Aside0.mk (blk_below (g := gb273) (o := .cells #[.slice A0_0 l0_0.length c0_0, .int .i64 a0_1, .int .i64 a0_2, .int .i64 a0_3] 27 (0, 0)) (by (with_reducible repeat (first | refine blk_drewN ?_ _ | refine blk_drew ?_ | refine blk_alloc ?_ _)); exact BK273.out) hb); have n2_ := Aside0.mk (blk_below (g := gb274) (o := .cells #[.slice none 0 0, .int .i64 0, .int .i64 0, .int .i64 0] 27 (0, 0)) (by (with_reducible repeat (first | refine blk_drewN ?_ _ | refine blk_drew ?_ | refine blk_alloc ?_ _)); exact BK274.out) hb); have n3_ := Aside0.mk (below_step (by repeat (first | (with_reducible first | exact HB.out | apply below_alloc | apply pw_below_drewN | apply below_drew1 | refine below_set ?_ GE273.out | refine below_set ?_ GE274.out) | exact HB.out)) hb); clear BK273; clear BK274; clear HB; have HO277 := n0_; have BK273 := n1_; have BK274 := n2_; have HB := n3_; clear n0_ n1_ n2_ n3_; (try clear hb); (try clear hb2); (try clear hk); (try clear hi); (try clear ho0)) | ((with_reducible refine gate_dst (N := 11) rfl ?_); (try (refine gate_guard (by rfl) ?_; dsimp only)); refine box_event ?hg (N := 11) ?hd (cs := #[.slice none 0 0, .int .i64 0, .int .i64 0, .int .i64 0]) (t := 27) ?hr ?_; (case hd => rfl); (case hg => rfl); (case hr => first | (go_simp; done) | (go_simp; rfl)); intro gb281 hg w12 hbox hb; have n0_ := Aside0.mk (Kd.R_below (by (with_reducible repeat (first | apply Kd.R_alloc | apply Kd.R_drewN | apply Kd.R_drew)); exact HO277.out) hb); have n1_ := Aside0.mk (blk_below (g := gb273) (o := .cells #[.slice A0_0 l0_0.length c0_0, .int .i64 a0_1, .int .i64 a0_2, .int .i64 a0_3] 27 (0, 0)) (by (with_reducible repeat (first | refine blk_drewN ?_ _ | refine blk_drew ?_ | refine blk_alloc ?_ _)); exact BK273.out) hb); have n2_ := Aside0.mk (blk_below (g := gb274) (o := .cells #[.slice none 0 0, .int .i64 0, .int .i64 0, .int .i64 0] 27 (0, 0)) (by (with_reducible repeat (first | refine blk_drewN ?_ _ | refine blk_drew ?_ | refine blk_alloc ?_ _)); exact BK274.out) hb); have n3_ := Aside0.mk (below_step (by repeat (first | (with_reducible first | exact HB.out | apply below_alloc | apply pw_below_drewN | apply below_drew1 | refine below_set ?_ GE273.out | refine below_set ?_ GE274.out) | exact HB.out)) hb); have n4_ := Aside0.mk (hbox); have n5_ := Aside0.mk ((by rw [hg]; exact (below_size (by repeat (first | (with_reducible first | exact HB.out | apply below_alloc | apply pw_below_drewN | apply below_drew1 | refine below_set ?_ GE273.out | refine below_set ?_ GE274.out) | exact HB.out))) : w.heap.size ≤ gb281)); have n6_ := Aside0.mk ((by rw [hg]; exact (below_size (by repeat (first | (with_reducible first | exact HB.out | apply below_alloc | apply pw_below_drewN | apply below_drew1 | refine below_set ?_ GE273.out | refine below_set ?_ GE274.out) | exact HB.out))) : w.heap.size ≤ gb281)); have n7_ := Aside0.mk ((by rw [hg]; exact Nat.ne_of_lt (blk_lt (g := gb273) (o := .cells #[.slice A0_0 l0_0.length c0_0, .int .i64 a0_1, .int .i64 a0_2, .int .i64 a0_3] 27 (0, 0)) (by (with_reducible repeat (first | refine blk_drewN ?_ _ | refine blk_drew ?_ | refine blk_alloc ?_ _)); exact BK273.out)) : gb273 ≠ gb281)); have n8_ := Aside0.mk ((by rw [hg]; exact Nat.ne_of_gt (blk_lt (g := gb273) (o := .cells #[.slice A0_0 l0_0.length c0_0, .int .i64 a0_1, .int .i64 a0_2, .int .i64 a0_3] 27 (0, 0)) (by (with_reducible repeat (first | refine blk_drewN ?_ _ | refine blk_drew ?_ | refine blk_alloc ?_ _)); exact BK273.out)) : gb281 ≠ gb273)); have n9_ := Aside0.mk ((by rw [hg]; exact Nat.ne_of_lt (blk_lt (g := gb274) (o := .cells #[.slice none 0 0, .int .i64 0, .int .i64 0, .int .i64 0] 27 (0, 0)) (by (with_reducible repeat (first | refine blk_drewN ?_ _ | refine blk_drew ?_ | refine blk_alloc ?_ _)); exact BK274.out)) : gb274 ≠ gb281)); have n10_ := Aside0.mk ((by rw [hg]; exact Nat.ne_of_gt (blk_lt (g := gb274) (o := .cells #[.slice none 0 0, .int .i64 0, .int .i64 0, .int .i64 0] 27 (0, 0)) (by (with_reducible repeat (first | refine blk_drewN ?_ _ | refine blk_drew ?_ | refine blk_alloc ?_ _)); exact BK274.out)) : gb281 ≠ gb274)); clear HO277; clear BK273; clear BK274; clear HB; have HO277 := n0_; have BK273 := n1_; have BK274 := n2_; have HB := n3_; have BK281 := n4_; have GW281 := n5_; have GE281 := n6_; have NB273_281 := n7_; have NB281_273 := n8_; have NB274_281 := n9_; have NB281_274 := n10_; clear n0_ n1_ n2_ n3_ n4_ n5_ n6_ n7_ n8_ n9_ n10_; clear hb hbox hg; obtain ⟨Ao13, co13, eo13⟩ := Kd.R_slice HO277.out; subst eo13; have hnb14 := NB281_273.out; have hnc14 := NB273_281.out; have hnb15 := NB281_274.out; have hnc15 := NB274_281.out; have hcz16_0 : w12.cell? ⟨gb281, 0, none⟩ = some (.slice none 0 0) := (blk_cell BK281.out 0).trans rfl; have hcz16_1 : w12.cell? ⟨gb281, 1, none⟩ = some (.int .i64 0) := (blk_cell BK281.out 1).trans rfl; have hcz16_2 : w12.cell? ⟨gb281, 2, none⟩ = some (.int .i64 0) := (blk_cell BK281.out 2).trans rfl; have hcz16_3 : w12.cell? ⟨gb281, 3, none⟩ = some (.int .i64 0) := (blk_cell BK281.out 3).trans rfl; have hfz16_0 := blk_frozen BK281.out 0; have hfz16_1 := blk_frozen BK281.out 1; have hfz16_2 := blk_frozen BK281.out 2; have hfz16_3 := blk_frozen BK281.out 3))
  (try simp only [Act.put, List.setIfInBounds_toArray, List.set_cons_zero, List.set_cons_succ])
  go_cut [35] (fun v35 wc => ∃ (kq : Nat) (x35_5 : Bool), v35 = .bool x35_5 ∧ Aside0 (impl_Alloc.j0 kq a1 a2 l3 x35_5 l0_0 a0_1 a0_2 a0_3 t275 t278 t279 t280 = some (r1, r2, r3, r4, r5, r6)) ∧ Aside0 (kq ≤ k) ∧ Aside0 (Kd.R (Kd.int .i64) 3 wc w.heap.size (fun _ => True) (.slice Ao13 t275.length co13) t275) ∧ Aside0 (wc.heap[gb273]? = some (.cells #[(.slice A0_0 l0_0.length c0_0), .int .i64 a0_1, .int .i64 a0_2, .int .i64 a0_3] 27 (0, 0))) ∧ Aside0 (wc.heap[gb274]? = some (.cells #[(.slice none 0 0), .int .i64 0, .int .i64 0, .int .i64 0] 27 (0, 0))) ∧ Aside0 (wc.heap[gb281]? = some (.cells #[(.slice Ao13 t275.length co13), .int .i64 t278, .int .i64 t279, .int .i64 t280] 27 (0, 0))) ∧ Aside0 (Below w.heap.size w wc))
  case first =>
    have H := HC6.out
    clear HC6
    replace H := Option.bind_eq_some_iff.mp H
    obtain ⟨t282, A170, H⟩ := H
    replace H : (if t282 = true then ((impl_within.f a2 0 3000).bind fun t283 => (if t283 = true then (if (l3.length : Int) > 20 then (impl_Alloc.j0 k a1 a2 l3 true l0_0 a0_1 a0_2 a0_3 t275 t278 t279 t280) else ((impl_Room.f k l0_0 a0_1 a0_2 a0_3).bind fun t284 => (impl_Alloc.j0 k a1 a2 l3 (decide ((wrap64 ((l3.length : Int) + 1)) > t284)) l0_0 a0_1 a0_2 a0_3 t275 t278 t279 t280))) else (impl_Alloc.j0 k a1 a2 l3 true l0_0 a0_1 a0_2 a0_3 t275 t278 t279 t280))) else (impl_Alloc.j0 k a1 a2 l3 true l0_0 a0_1 a0_2 a0_3 t275 t278 t279 t280)) = some (r1, r2, r3, r4, r5, r6) := H
    have A17 := Aside0.mk A170
    clear A170
    by_cases c18 : t282 = true
    · subst c18
      have H1 : ((impl_within.f a2 0 3000).bind fun t283 => (if t283 = true then (if (l3.length : Int) > 20 then (impl_Alloc.j0 k a1 a2 l3 true l0_0 a0_1 a0_2 a0_3 t275 t278 t279 t280) else ((impl_Room.f k l0_0 a0_1 a0_2 a0_3).bind fun t284 => (impl_Alloc.j0 k a1 a2 l3 (decide ((wrap64 ((l3.length : Int) + 1)) > t284)) l0_0 a0_1 a0_2 a0_3 t275 t278 t279 t280))) else (impl_Alloc.j0 k a1 a2 l3 true l0_0 a0_1 a0_2 a0_3 t275 t278 t279 t280))) = some (r1, r2, r3, r4, r5, r6) := by rw [if_pos rfl] at H; exact H
      clear H
      have H := H1
      clear H1
      replace H := Option.bind_eq_some_iff.mp H
      obtain ⟨t283, A190, H⟩ := H
      replace H : (if t283 = true then (if (l3.length : Int) > 20 then (impl_Alloc.j0 k a1 a2 l3 true l0_0 a0_1 a0_2 a0_3 t275 t278 t279 t280) else ((impl_Room.f k l0_0 a0_1 a0_2 a0_3).bind fun t284 => (impl_Alloc.j0 k a1 a2 l3 (decide ((wrap64 ((l3.length : Int) + 1)) > t284)) l0_0 a0_1 a0_2 a0_3 t275 t278 t279 t280))) else (impl_Alloc.j0 k a1 a2 l3 true l0_0 a0_1 a0_2 a0_3 t275 t278 t279 t280)) = some (r1, r2, r3, r4, r5, r6) := H
      have A19 := Aside0.mk A190
      clear A190
      by_cases c20 : t283 = true
      · subst c20
        have H1 : (if (l3.length : Int) > 20 then (impl_Alloc.j0 k a1 a2 l3 true l0_0 a0_1 a0_2 a0_3 t275 t278 t279 t280) else ((impl_Room.f k l0_0 a0_1 a0_2 a0_3).bind fun t284 => (impl_Alloc.j0 k a1 a2 l3 (decide ((wrap64 ((l3.length : Int) + 1)) > t284)) l0_0 a0_1 a0_2 a0_3 t275 t278 t279 t280))) = some (r1, r2, r3, r4, r5, r6) := by rw [if_pos rfl] at H; exact H
        clear H
        have H := H1
        clear H1
        by_cases c21 : (l3.length : Int) > 20
        · rw [if_pos c21] at H
          have c21b0 : decide (20 < (l3.length : Int)) = true := decide_eq_true c21
          have c21b1 : decide (20 < l3.length) = true := decide_eq_true (by omega)
          clear c21
          (first | rw [c21b0] | (simp only [i64_w, i32_w]; rw [c21b0]) | skip)
          have H' := Aside0.mk H
          clear H
          have hnb22 := NB273_274.out
          have hnc22 := NB274_273.out
          have hnb23 := NB273_281.out
          have hnc23 := NB281_273.out
          have hcz24_0 : w12.cell? ⟨gb273, 0, none⟩ = some (.slice A0_0 l0_0.length c0_0) := (blk_cell BK273.out 0).trans rfl
          have hcz24_1 : w12.cell? ⟨gb273, 1, none⟩ = some (.int .i64 a0_1) := (blk_cell BK273.out 1).trans rfl
          have hcz24_2 : w12.cell? ⟨gb273, 2, none⟩ = some (.int .i64 a0_2) := (blk_cell BK273.out 2).trans rfl
          have hcz24_3 : w12.cell? ⟨gb273, 3, none⟩ = some (.int .i64 a0_3) := (blk_cell BK273.out 3).trans rfl
          have hfz24_0 := blk_frozen BK273.out 0
          have hfz24_1 := blk_frozen BK273.out 1
          have hfz24_2 := blk_frozen BK273.out 2
          have hfz24_3 := blk_frozen BK273.out 3
          go_wp2_with (first | ((with_reducible refine gate_callee (f := 37) rfl ?_); refine goesL_ (some 16) rfl rfl Try.func37 (by kernel_rfl) rfl #[.agg #[.slice A0_0 l0_0.length c0_0, .int .i64 a0_1, .int .i64 a0_2, .int .i64 a0_3]] rfl (by (try simp only [List.map_toArray, List.map_cons, List.map_nil]); first | done | rfl | (simp only [List.length_drop, List.length_take]; rfl)) ?_; (with_reducible refine (impl_HeapOk.calls k _ _ l0_0 a0_1 a0_2 a0_3 true _ ?side1 ?side2 A17.out).mono ?_); (case side1 => exact Kd.C_below HR0_0.out (by repeat (first | (with_reducible first | exact HB.out | apply below_alloc | apply pw_below_drewN | apply below_drew1 | refine below_set ?_ GE273.out | refine below_set ?_ GE274.out | refine below_set ?_ GE281.out) | exact HB.out))); (case side2 => exact HC0_0.out); rintro e w25 ⟨rfl, hb⟩; refine ⟨_, rfl, ?_⟩; have n0_ := Aside0.mk (Kd.R_below (by (with_reducible repeat (first | apply Kd.R_alloc | apply Kd.R_drewN | apply Kd.R_drew)); exact (Kd.R_mono (Kd.R_far (p := ⟨gb281, 3, none⟩) (Kd.R_far (p := ⟨gb281, 2, none⟩) (Kd.R_far (p := ⟨gb281, 1, none⟩) (Kd.R_far (p := ⟨gb281, 0, none⟩) (Kd.R_types HO277.out BK281.out (by decide)) (fun _ hk => hk.2) (.slice Ao13 t275.length co13)) (fun _ hk => hk.2) (.int .i64 t278)) (fun _ hk => hk.2) (.int .i64 t279)) (fun _ hk => hk.2) (.int .i64 t280)) (fun _ h_ => h_.1))) hb); have n1_ := Aside0.mk (blk_below (g := gb273) (o := .cells #[.slice A0_0 l0_0.length c0_0, .int .i64 a0_1, .int .i64 a0_2, .int .i64 a0_3] 27 (0, 0)) (by (with_reducible repeat (first | refine blk_drewN ?_ _ | refine blk_drew ?_ | refine blk_alloc ?_ _)); refine blk_far ?_ NB273_281.out _; (with_reducible repeat (first | refine blk_drewN ?_ _ | refine blk_drew ?_ | refine blk_alloc ?_ _)); refine blk_far ?_ NB273_281.out _; (with_reducible repeat (first | refine blk_drewN ?_ _ | refine blk_drew ?_ | refine blk_alloc ?_ _)); refine blk_far ?_ NB273_281.out _; (with_reducible repeat (first | refine blk_drewN ?_ _ | refine blk_drew ?_ | refine blk_alloc ?_ _)); refine blk_far ?_ NB273_281.out _; (with_reducible repeat (first | refine blk_drewN ?_ _ | refine blk_drew ?_ | refine blk_alloc ?_ _)); exact BK273.out) hb); have n2_ := Aside0.mk (blk_below (g := gb274) (o := .cells #[.slice none 0 0, .int .i64 0, .int .i64 0, .int .i64 0] 27 (0, 0)) (by (with_reducible repeat (first | refine blk_drewN ?_ _ | refine blk_drew ?_ | refine blk_alloc ?_ _)); refine blk_far ?_ NB274_281.out _; (with_reducible repeat (first | refine blk_drewN ?_ _ | refine blk_drew ?_ | refine blk_alloc ?_ _)); refine blk_far ?_ NB274_281.out _; (with_reducible repeat (first | refine blk_drewN ?_ _ | refine blk_drew ?_ | refine blk_alloc ?_ _)); refine blk_far ?_ NB274_281.out _; (with_reducible repeat (first | refine blk_drewN ?_ _ | refine blk_drew ?_ | refine blk_alloc ?_ _)); refine blk_far ?_ NB274_281.out _; (with_reducible repeat (first | refine blk_drewN ?_ _ | refine blk_drew ?_ | refine blk_alloc ?_ _)); exact BK274.out) hb); have n3_ := Aside0.mk (blk_below (g := gb281) (o := .cells #[.slice Ao13 t275.length co13, .int .i64 t278, .int .i64 t279, .int .i64 t280] 27 (0, 0)) (by (with_reducible repeat (first | refine blk_drewN ?_ _ | refine blk_drew ?_ | refine blk_alloc ?_ _)); refine blk_put (cs := #[.slice Ao13 t275.length co13, .int .i64 t278, .int .i64 t279, .int .i64 0]) ?_ 3 _ rfl; (with_reducible repeat (first | refine blk_drewN ?_ _ | refine blk_drew ?_ | refine blk_alloc ?_ _)); refine blk_put (cs := #[.slice Ao13 t275.length co13, .int .i64 t278, .int .i64 0, .int .i64 0]) ?_ 2 _ rfl; (with_reducible repeat (first | refine blk_drewN ?_ _ | refine blk_drew ?_ | refine blk_alloc ?_ _)); refine blk_put (cs := #[.slice Ao13 t275.length co13, .int .i64 0, .int .i64 0, .int .i64 0]) ?_ 1 _ rfl; (with_reducible repeat (first | refine blk_drewN ?_ _ | refine blk_drew ?_ | refine blk_alloc ?_ _)); refine blk_put (cs := #[.slice none 0 0, .int .i64 0, .int .i64 0, .int .i64 0]) ?_ 0 _ rfl; (with_reducible repeat (first | refine blk_drewN ?_ _ | refine blk_drew ?_ | refine blk_alloc ?_ _)); exact BK281.out) hb); have n4_ := Aside0.mk (below_step (by repeat (first | (with_reducible first | exact HB.out | apply below_alloc | apply pw_below_drewN | apply below_drew1 | refine below_set ?_ GE273.out | refine below_set ?_ GE274.out | refine below_set ?_ GE281.out) | exact HB.out)) hb); clear HO277; clear BK273; clear BK274; clear BK281; clear HB; have HO277 := n0_; have BK273 := n1_; have BK274 := n2_; have BK281 := n3_; have HB := n4_; clear n0_ n1_ n2_ n3_ n4_; (try clear hb); (try clear hb2); (try clear hk); (try clear hi)) | (go_at_call 64; (with_reducible refine (impl_within.calls a2 0 3000 true _ A19.out).mono ?_); rintro e w' ⟨rfl, ⟨nd, rfl⟩⟩))
          go_meet
          case rel => exact ⟨_, (true), (by first | rfl | (simp; done) | (simp [*]; done)), H', ⟨by first | omega | exact Nat.le_refl _⟩, ⟨by (with_reducible repeat (first | apply Kd.R_alloc | apply Kd.R_drewN | apply Kd.R_drew)); exact HO277.out⟩, ⟨by (with_reducible repeat (first | refine blk_drewN ?_ _ | refine blk_drew ?_ | refine blk_alloc ?_ _)); exact BK273.out⟩, ⟨by (with_reducible repeat (first | refine blk_drewN ?_ _ | refine blk_drew ?_ | refine blk_alloc ?_ _)); exact BK274.out⟩, ⟨by (with_reducible repeat (first | refine blk_drewN ?_ _ | refine blk_drew ?_ | refine blk_alloc ?_ _)); exact BK281.out⟩, ⟨by repeat (first | (with_reducible first | exact HB.out | apply below_alloc | apply pw_below_drewN | apply below_drew1 | refine below_set ?_ GE273.out | refine below_set ?_ GE274.out | refine below_set ?_ GE281.out) | exact HB.out)⟩⟩
        · rw [if_neg c21] at H
          have c21b0 : decide (20 < (l3.length : Int)) = false := decide_eq_false c21
          have c21b1 : decide (20 < l3.length) = false := decide_eq_false (by omega)
          clear c21
          (first | rw [c21b0] | (simp only [i64_w, i32_w]; rw [c21b0]) | skip)
          replace H := Option.bind_eq_some_iff.mp H
          obtain ⟨t284, A260, H⟩ := H
          replace H : (impl_Alloc.j0 k a1 a2 l3 (decide ((wrap64 ((l3.length : Int) + 1)) > t284)) l0_0 a0_1 a0_2 a0_3 t275 t278 t279 t280) = some (r1, r2, r3, r4, r5, r6) := H
          have A26 := Aside0.mk A260
          clear A260
          have H' := Aside0.mk H
          clear H
          have hnb27 := NB273_274.out
          have hnc27 := NB274_273.out
          have hnb28 := NB273_281.out
          have hnc28 := NB281_273.out
          have hcz29_0 : w12.cell? ⟨gb273, 0, none⟩ = some (.slice A0_0 l0_0.length c0_0) := (blk_cell BK273.out 0).trans rfl
          have hcz29_1 : w12.cell? ⟨gb273, 1, none⟩ = some (.int .i64 a0_1) := (blk_cell BK273.out 1).trans rfl
          have hcz29_2 : w12.cell? ⟨gb273, 2, none⟩ = some (.int .i64 a0_2) := (blk_cell BK273.out 2).trans rfl
          have hcz29_3 : w12.cell? ⟨gb273, 3, none⟩ = some (.int .i64 a0_3) := (blk_cell BK273.out 3).trans rfl
          have hfz29_0 := blk_frozen BK273.out 0
          have hfz29_1 := blk_frozen BK273.out 1
          have hfz29_2 := blk_frozen BK273.out 2
          have hfz29_3 := blk_frozen BK273.out 3
          go_wp2_with (first | ((with_reducible refine gate_callee (f := 37) rfl ?_); refine goesL_ (some 16) rfl rfl Try.func37 (by kernel_rfl) rfl #[.agg #[.slice A0_0 l0_0.length c0_0, .int .i64 a0_1, .int .i64 a0_2, .int .i64 a0_3]] rfl (by (try simp only [List.map_toArray, List.map_cons, List.map_nil]); first | done | rfl | (simp only [List.length_drop, List.length_take]; rfl)) ?_; (with_reducible refine (impl_HeapOk.calls k _ _ l0_0 a0_1 a0_2 a0_3 true _ ?side1 ?side2 A17.out).mono ?_); (case side1 => exact Kd.C_below HR0_0.out (by repeat (first | (with_reducible first | exact HB.out | apply below_alloc | apply pw_below_drewN | apply below_drew1 | refine below_set ?_ GE273.out | refine below_set ?_ GE274.out | refine below_set ?_ GE281.out) | exact HB.out))); (case side2 => exact HC0_0.out); rintro e w30 ⟨rfl, hb⟩; refine ⟨_, rfl, ?_⟩; have n0_ := Aside0.mk (Kd.R_below (by (with_reducible repeat (first | apply Kd.R_alloc | apply Kd.R_drewN | apply Kd.R_drew)); exact (Kd.R_mono (Kd.R_far (p := ⟨gb281, 3, none⟩) (Kd.R_far (p := ⟨gb281, 2, none⟩) (Kd.R_far (p := ⟨gb281, 1, none⟩) (Kd.R_far (p := ⟨gb281, 0, none⟩) (Kd.R_types HO277.out BK281.out (by decide)) (fun _ hk => hk.2) (.slice Ao13 t275.length co13)) (fun _ hk => hk.2) (.int .i64 t278)) (fun _ hk => hk.2) (.int .i64 t279)) (fun _ hk => hk.2) (.int .i64 t280)) (fun _ h_ => h_.1))) hb); have n1_ := Aside0.mk (blk_below (g := gb273) (o := .cells #[.slice A0_0 l0_0.length c0_0, .int .i64 a0_1, .int .i64 a0_2, .int .i64 a0_3] 27 (0, 0)) (by (with_reducible repeat (first | refine blk_drewN ?_ _ | refine blk_drew ?_ | refine blk_alloc ?_ _)); refine blk_far ?_ NB273_281.out _; (with_reducible repeat (first | refine blk_drewN ?_ _ | refine blk_drew ?_ | refine blk_alloc ?_ _)); refine blk_far ?_ NB273_281.out _; (with_reducible repeat (first | refine blk_drewN ?_ _ | refine blk_drew ?_ | refine blk_alloc ?_ _)); refine blk_far ?_ NB273_281.out _; (with_reducible repeat (first | refine blk_drewN ?_ _ | refine blk_drew ?_ | refine blk_alloc ?_ _)); refine blk_far ?_ NB273_281.out _; (with_reducible repeat (first | refine blk_drewN ?_ _ | refine blk_drew ?_ | refine blk_alloc ?_ _)); exact BK273.out) hb); have n2_ := Aside0.mk (blk_below (g := gb274) (o := .cells #[.slice none 0 0, .int .i64 0, .int .i64 0, .int .i64 0] 27 (0, 0)) (by (with_reducible repeat (first | refine blk_drewN ?_ _ | refine blk_drew ?_ | refine blk_alloc ?_ _)); refine blk_far ?_ NB274_281.out _; (with_reducible repeat (first | refine blk_drewN ?_ _ | refine blk_drew ?_ | refine blk_alloc ?_ _)); refine blk_far ?_ NB274_281.out _; (with_reducible repeat (first | refine blk_drewN ?_ _ | refine blk_drew ?_ | refine blk_alloc ?_ _)); refine blk_far ?_ NB274_281.out _; (with_reducible repeat (first | refine blk_drewN ?_ _ | refine blk_drew ?_ | refine blk_alloc ?_ _)); refine blk_far ?_ NB274_281.out _; (with_reducible repeat (first | refine blk_drewN ?_ _ | refine blk_drew ?_ | refine blk_alloc ?_ _)); exact BK274.out) hb); have n3_ := Aside0.mk (blk_below (g := gb281) (o := .cells #[.slice Ao13 t275.length co13, .int .i64 t278, .int .i64 t279, .int .i64 t280] 27 (0, 0)) (by (with_reducible repeat (first | refine blk_drewN ?_ _ | refine blk_drew ?_ | refine blk_alloc ?_ _)); refine blk_put (cs := #[.slice Ao13 t275.length co13, .int .i64 t278, .int .i64 t279, .int .i64 0]) ?_ 3 _ rfl; (with_reducible repeat (first | refine blk_drewN ?_ _ | refine blk_drew ?_ | refine blk_alloc ?_ _)); refine blk_put (cs := #[.slice Ao13 t275.length co13, .int .i64 t278, .int .i64 0, .int .i64 0]) ?_ 2 _ rfl; (with_reducible repeat (first | refine blk_drewN ?_ _ | refine blk_drew ?_ | refine blk_alloc ?_ _)); refine blk_put (cs := #[.slice Ao13 t275.length co13, .int .i64 0, .int .i64 0, .int .i64 0]) ?_ 1 _ rfl; (with_reducible repeat (first | refine blk_drewN ?_ _ | refine blk_drew ?_ | refine blk_alloc ?_ _)); refine blk_put (cs := #[.slice none 0 0, .int .i64 0, .int .i64 0, .int .i64 0]) ?_ 0 _ rfl; (with_reducible repeat (first | refine blk_drewN ?_ _ | refine blk_drew ?_ | refine blk_alloc ?_ _)); exact BK281.out) hb); have n4_ := Aside0.mk (below_step (by repeat (first | (with_reducible first | exact HB.out | apply below_alloc | apply pw_below_drewN | apply below_drew1 | refine below_set ?_ GE273.out | refine below_set ?_ GE274.out | refine below_set ?_ GE281.out) | exact HB.out)) hb); clear HO277; clear BK273; clear BK274; clear BK281; clear HB; have HO277 := n0_; have BK273 := n1_; have BK274 := n2_; have BK281 := n3_; have HB := n4_; clear n0_ n1_ n2_ n3_ n4_; (try clear hb); (try clear hb2); (try clear hk); (try clear hi)) | (go_at_call 64; (with_reducible refine (impl_within.calls a2 0 3000 true _ A19.out).mono ?_); rintro e w' ⟨rfl, ⟨nd, rfl⟩⟩; have hcz31_0 : w30.cell? ⟨gb273, 0, none⟩ = some (.slice A0_0 l0_0.length c0_0) := (blk_cell BK273.out 0).trans rfl; have hcz31_1 : w30.cell? ⟨gb273, 1, none⟩ = some (.int .i64 a0_1) := (blk_cell BK273.out 1).trans rfl; have hcz31_2 : w30.cell? ⟨gb273, 2, none⟩ = some (.int .i64 a0_2) := (blk_cell BK273.out 2).trans rfl; have hcz31_3 : w30.cell? ⟨gb273, 3, none⟩ = some (.int .i64 a0_3) := (blk_cell BK273.out 3).trans rfl; have hfz31_0 := blk_frozen BK273.out 0; have hfz31_1 := blk_frozen BK273.out 1; have hfz31_2 := blk_frozen BK273.out 2; have hfz31_3 := blk_frozen BK273.out 3) | (go_at_call 15; (with_reducible refine (impl_Room.calls k _ _ l0_0 a0_1 a0_2 a0_3 t284 _ ?side1 ?side2 A26.out).mono ?_); (case side1 => repeat (first | exact (Kd.C_below HR0_0.out (by repeat (first | (with_reducible first | exact HB.out | apply below_alloc | apply pw_below_drewN | apply below_drew1 | refine below_set ?_ GE273.out | refine below_set ?_ GE274.out | refine below_set ?_ GE281.out) | exact HB.out))) | (with_reducible refine Kd.C_alloc ?_ _) | (with_reducible refine Kd.C_drewN ?_ _) | (with_reducible refine Kd.C_drew ?_))); (case side2 => exact HC0_0.out); rintro e w32 ⟨rfl, hb⟩; have n0_ := Aside0.mk (Kd.R_below (by (with_reducible repeat (first | apply Kd.R_alloc | apply Kd.R_drewN | apply Kd.R_drew)); exact HO277.out) hb); have n1_ := Aside0.mk (blk_below (g := gb273) (o := .cells #[.slice A0_0 l0_0.length c0_0, .int .i64 a0_1, .int .i64 a0_2, .int .i64 a0_3] 27 (0, 0)) (by (with_reducible repeat (first | refine blk_drewN ?_ _ | refine blk_drew ?_ | refine blk_alloc ?_ _)); exact BK273.out) hb); have n2_ := Aside0.mk (blk_below (g := gb274) (o := .cells #[.slice none 0 0, .int .i64 0, .int .i64 0, .int .i64 0] 27 (0, 0)) (by (with_reducible repeat (first | refine blk_drewN ?_ _ | refine blk_drew ?_ | refine blk_alloc ?_ _)); exact BK274.out) hb); have n3_ := Aside0.mk (blk_below (g := gb281) (o := .cells #[.slice Ao13 t275.length co13, .int .i64 t278, .int .i64 t279, .int .i64 t280] 27 (0, 0)) (by (with_reducible repeat (first | refine blk_drewN ?_ _ | refine blk_drew ?_ | refine blk_alloc ?_ _)); exact BK281.out) hb); have n4_ := Aside0.mk (below_step (by repeat (first | (with_reducible first | exact HB.out | apply below_alloc | apply pw_below_drewN | apply below_drew1 | refine below_set ?_ GE273.out | refine below_set ?_ GE274.out | refine below_set ?_ GE281.out) | exact HB.out)) hb); clear HO277; clear BK273; clear BK274; clear BK281; clear HB; have HO277 := n0_; have BK273 := n1_; have BK274 := n2_; have BK281 := n3_; have HB := n4_; clear n0_ n1_ n2_ n3_ n4_; (try clear hb); (try clear hb2); (try clear hk); (try clear hi)))
          go_meet
          case rel => exact ⟨_, (decide ((wrap64 ((l3.length : Int) + 1)) > t284)), (by first | rfl | (simp; done) | (simp [*]; done)), H', ⟨by first | omega | exact Nat.le_refl _⟩, ⟨by (with_reducible repeat (first | apply Kd.R_alloc | apply Kd.R_drewN | apply Kd.R_drew)); exact HO277.out⟩, ⟨by (with_reducible repeat (first | refine blk_drewN ?_ _ | refine blk_drew ?_ | refine blk_alloc ?_ _)); exact BK273.out⟩, ⟨by (with_reducible repeat (first | refine blk_drewN ?_ _ | refine blk_drew ?_ | refine blk_alloc ?_ _)); exact BK274.out⟩, ⟨by (with_reducible repeat (first | refine blk_drewN ?_ _ | refine blk_drew ?_ | refine blk_alloc ?_ _)); exact BK281.out⟩, ⟨by repeat (first | (with_reducible first | exact HB.out | apply below_alloc | apply pw_below_drewN | apply below_drew1 | refine below_set ?_ GE273.out | refine below_set ?_ GE274.out | refine below_set ?_ GE281.out) | exact HB.out)⟩⟩
      · replace c20 := Bool.eq_false_iff.mpr c20
        subst c20
        have H1 : (impl_Alloc.j0 k a1 a2 l3 true l0_0 a0_1 a0_2 a0_3 t275 t278 t279 t280) = some (r1, r2, r3, r4, r5, r6) := by rw [if_neg (show ¬ (false = true) by decide)] at H; exact H
        clear H
        have H := H1
        clear H1
        have H' := Aside0.mk H
        clear H
        have hnb33 := NB273_274.out
        have hnc33 := NB274_273.out
        have hnb34 := NB273_281.out
        have hnc34 := NB281_273.out
        have hcz35_0 : w12.cell? ⟨gb273, 0, none⟩ = some (.slice A0_0 l0_0.length c0_0) := (blk_cell BK273.out 0).trans rfl
        have hcz35_1 : w12.cell? ⟨gb273, 1, none⟩ = some (.int .i64 a0_1) := (blk_cell BK273.out 1).trans rfl
        have hcz35_2 : w12.cell? ⟨gb273, 2, none⟩ = some (.int .i64 a0_2) := (blk_cell BK273.out 2).trans rfl
        have hcz35_3 : w12.cell? ⟨gb273, 3, none⟩ = some (.int .i64 a0_3) := (blk_cell BK273.out 3).trans rfl
        have hfz35_0 := blk_frozen BK273.out 0
        have hfz35_1 := blk_frozen BK273.out 1
        have hfz35_2 := blk_frozen BK273.out 2
        have hfz35_3 := blk_frozen BK273.out 3
        go_wp2_with (first | ((with_reducible refine gate_callee (f := 37) rfl ?_); refine goesL_ (some 16) rfl rfl Try.func37 (by kernel_rfl) rfl #[.agg #[.slice A0_0 l0_0.length c0_0, .int .i64 a0_1, .int .i64 a0_2, .int .i64 a0_3]] rfl (by (try simp only [List.map_toArray, List.map_cons, List.map_nil]); first | done | rfl | (simp only [List.length_drop, List.length_take]; rfl)) ?_; (with_reducible refine (impl_HeapOk.calls k _ _ l0_0 a0_1 a0_2 a0_3 true _ ?side1 ?side2 A17.out).mono ?_); (case side1 => exact Kd.C_below HR0_0.out (by repeat (first | (with_reducible first | exact HB.out | apply below_alloc | apply pw_below_drewN | apply below_drew1 | refine below_set ?_ GE273.out | refine below_set ?_ GE274.out | refine below_set ?_ GE281.out) | exact HB.out))); (case side2 => exact HC0_0.out); rintro e w36 ⟨rfl, hb⟩; refine ⟨_, rfl, ?_⟩; have n0_ := Aside0.mk (Kd.R_below (by (with_reducible repeat (first | apply Kd.R_alloc | apply Kd.R_drewN | apply Kd.R_drew)); exact (Kd.R_mono (Kd.R_far (p := ⟨gb281, 3, none⟩) (Kd.R_far (p := ⟨gb281, 2, none⟩) (Kd.R_far (p := ⟨gb281, 1, none⟩) (Kd.R_far (p := ⟨gb281, 0, none⟩) (Kd.R_types HO277.out BK281.out (by decide)) (fun _ hk => hk.2) (.slice Ao13 t275.length co13)) (fun _ hk => hk.2) (.int .i64 t278)) (fun _ hk => hk.2) (.int .i64 t279)) (fun _ hk => hk.2) (.int .i64 t280)) (fun _ h_ => h_.1))) hb); have n1_ := Aside0.mk (blk_below (g := gb273) (o := .cells #[.slice A0_0 l0_0.length c0_0, .int .i64 a0_1, .int .i64 a0_2, .int .i64 a0_3] 27 (0, 0)) (by (with_reducible repeat (first | refine blk_drewN ?_ _ | refine blk_drew ?_ | refine blk_alloc ?_ _)); refine blk_far ?_ NB273_281.out _; (with_reducible repeat (first | refine blk_drewN ?_ _ | refine blk_drew ?_ | refine blk_alloc ?_ _)); refine blk_far ?_ NB273_281.out _; (with_reducible repeat (first | refine blk_drewN ?_ _ | refine blk_drew ?_ | refine blk_alloc ?_ _)); refine blk_far ?_ NB273_281.out _; (with_reducible repeat (first | refine blk_drewN ?_ _ | refine blk_drew ?_ | refine blk_alloc ?_ _)); refine blk_far ?_ NB273_281.out _; (with_reducible repeat (first | refine blk_drewN ?_ _ | refine blk_drew ?_ | refine blk_alloc ?_ _)); exact BK273.out) hb); have n2_ := Aside0.mk (blk_below (g := gb274) (o := .cells #[.slice none 0 0, .int .i64 0, .int .i64 0, .int .i64 0] 27 (0, 0)) (by (with_reducible repeat (first | refine blk_drewN ?_ _ | refine blk_drew ?_ | refine blk_alloc ?_ _)); refine blk_far ?_ NB274_281.out _; (with_reducible repeat (first | refine blk_drewN ?_ _ | refine blk_drew ?_ | refine blk_alloc ?_ _)); refine blk_far ?_ NB274_281.out _; (with_reducible repeat (first | refine blk_drewN ?_ _ | refine blk_drew ?_ | refine blk_alloc ?_ _)); refine blk_far ?_ NB274_281.out _; (with_reducible repeat (first | refine blk_drewN ?_ _ | refine blk_drew ?_ | refine blk_alloc ?_ _)); refine blk_far ?_ NB274_281.out _; (with_reducible repeat (first | refine blk_drewN ?_ _ | refine blk_drew ?_ | refine blk_alloc ?_ _)); exact BK274.out) hb); have n3_ := Aside0.mk (blk_below (g := gb281) (o := .cells #[.slice Ao13 t275.length co13, .int .i64 t278, .int .i64 t279, .int .i64 t280] 27 (0, 0)) (by (with_reducible repeat (first | refine blk_drewN ?_ _ | refine blk_drew ?_ | refine blk_alloc ?_ _)); refine blk_put (cs := #[.slice Ao13 t275.length co13, .int .i64 t278, .int .i64 t279, .int .i64 0]) ?_ 3 _ rfl; (with_reducible repeat (first | refine blk_drewN ?_ _ | refine blk_drew ?_ | refine blk_alloc ?_ _)); refine blk_put (cs := #[.slice Ao13 t275.length co13, .int .i64 t278, .int .i64 0, .int .i64 0]) ?_ 2 _ rfl; (with_reducible repeat (first | refine blk_drewN ?_ _ | refine blk_drew ?_ | refine blk_alloc ?_ _)); refine blk_put (cs := #[.slice Ao13 t275.length co13, .int .i64 0, .int .i64 0, .int .i64 0]) ?_ 1 _ rfl; (with_reducible repeat (first | refine blk_drewN ?_ _ | refine blk_drew ?_ | refine blk_alloc ?_ _)); refine blk_put (cs := #[.slice none 0 0, .int .i64 0, .int .i64 0, .int .i64 0]) ?_ 0 _ rfl; (with_reducible repeat (first | refine blk_drewN ?_ _ | refine blk_drew ?_ | refine blk_alloc ?_ _)); exact BK281.out) hb); have n4_ := Aside0.mk (below_step (by repeat (first | (with_reducible first | exact HB.out | apply below_alloc | apply pw_below_drewN | apply below_drew1 | refine below_set ?_ GE273.out | refine below_set ?_ GE274.out | refine below_set ?_ GE281.out) | exact HB.out)) hb); clear HO277; clear BK273; clear BK274; clear BK281; clear HB; have HO277 := n0_; have BK273 := n1_; have BK274 := n2_; have BK281 := n3_; have HB := n4_; clear n0_ n1_ n2_ n3_ n4_; (try clear hb); (try clear hb2); (try clear hk); (try clear hi)) | (go_at_call 64; (with_reducible refine (impl_within.calls a2 0 3000 false _ A19.out).mono ?_); rintro e w' ⟨rfl, ⟨nd, rfl⟩⟩))
        go_meet
        case rel => exact ⟨_, (true), (by first | rfl | (simp; done) | (simp [*]; done)), H', ⟨by first | omega | exact Nat.le_refl _⟩, ⟨by (with_reducible repeat (first | apply Kd.R_alloc | apply Kd.R_drewN | apply Kd.R_drew)); exact HO277.out⟩, ⟨by (with_reducible repeat (first | refine blk_drewN ?_ _ | refine blk_drew ?_ | refine blk_alloc ?_ _)); exact BK273.out⟩, ⟨by (with_reducible repeat (first | refine blk_drewN ?_ _ | refine blk_drew ?_ | refine blk_alloc ?_ _)); exact BK274.out⟩, ⟨by (with_reducible repeat (first | refine blk_drewN ?_ _ | refine blk_drew ?_ | refine blk_alloc ?_ _)); exact BK281.out⟩, ⟨by repeat (first | (with_reducible first | exact HB.out | apply below_alloc | apply pw_below_drewN | apply below_drew1 | refine below_set ?_ GE273.out | refine below_set ?_ GE274.out | refine below_set ?_ GE281.out) | exact HB.out)⟩⟩
    · replace c18 := Bool.eq_false_iff.mpr c18
      subst c18
      have H1 : (impl_Alloc.j0 k a1 a2 l3 true l0_0 a0_1 a0_2 a0_3 t275 t278 t279 t280) = some (r1, r2, r3, r4, r5, r6) := by rw [if_neg (show ¬ (false = true) by decide)] at H; exact H
      clear H
      have H := H1
      clear H1
      have H' := Aside0.mk H
      clear H
      have hnb37 := NB273_274.out
      have hnc37 := NB274_273.out
      have hnb38 := NB273_281.out
      have hnc38 := NB281_273.out
      have hcz39_0 : w12.cell? ⟨gb273, 0, none⟩ = some (.slice A0_0 l0_0.length c0_0) := (blk_cell BK273.out 0).trans rfl
      have hcz39_1 : w12.cell? ⟨gb273, 1, none⟩ = some (.int .i64 a0_1) := (blk_cell BK273.out 1).trans rfl
      have hcz39_2 : w12.cell? ⟨gb273, 2, none⟩ = some (.int .i64 a0_2) := (blk_cell BK273.out 2).trans rfl
      have hcz39_3 : w12.cell? ⟨gb273, 3, none⟩ = some (.int .i64 a0_3) := (blk_cell BK273.out 3).trans rfl
      have hfz39_0 := blk_frozen BK273.out 0
      have hfz39_1 := blk_frozen BK273.out 1
      have hfz39_2 := blk_frozen BK273.out 2
      have hfz39_3 := blk_frozen BK273.out 3
      go_wp2_with (first | ((with_reducible refine gate_callee (f := 37) rfl ?_); refine goesL_ (some 16) rfl rfl Try.func37 (by kernel_rfl) rfl #[.agg #[.slice A0_0 l0_0.length c0_0, .int .i64 a0_1, .int .i64 a0_2, .int .i64 a0_3]] rfl (by (try simp only [List.map_toArray, List.map_cons, List.map_nil]); first | done | rfl | (simp only [List.length_drop, List.length_take]; rfl)) ?_; (with_reducible refine (impl_HeapOk.calls k _ _ l0_0 a0_1 a0_2 a0_3 false _ ?side1 ?side2 A17.out).mono ?_); (case side1 => exact Kd.C_below HR0_0.out (by repeat (first | (with_reducible first | exact HB.out | apply below_alloc | apply pw_below_drewN | apply below_drew1 | refine below_set ?_ GE273.out | refine below_set ?_ GE274.out | refine below_set ?_ GE281.out) | exact HB.out))); (case side2 => exact HC0_0.out); rintro e w40 ⟨rfl, hb⟩; refine ⟨_, rfl, ?_⟩; have n0_ := Aside0.mk (Kd.R_below (by (with_reducible repeat (first | apply Kd.R_alloc | apply Kd.R_drewN | apply Kd.R_drew)); exact (Kd.R_mono (Kd.R_far (p := ⟨gb281, 3, none⟩) (Kd.R_far (p := ⟨gb281, 2, none⟩) (Kd.R_far (p := ⟨gb281, 1, none⟩) (Kd.R_far (p := ⟨gb281, 0, none⟩) (Kd.R_types HO277.out BK281.out (by decide)) (fun _ hk => hk.2) (.slice Ao13 t275.length co13)) (fun _ hk => hk.2) (.int .i64 t278)) (fun _ hk => hk.2) (.int .i64 t279)) (fun _ hk => hk.2) (.int .i64 t280)) (fun _ h_ => h_.1))) hb); have n1_ := Aside0.mk (blk_below (g := gb273) (o := .cells #[.slice A0_0 l0_0.length c0_0, .int .i64 a0_1, .int .i64 a0_2, .int .i64 a0_3] 27 (0, 0)) (by (with_reducible repeat (first | refine blk_drewN ?_ _ | refine blk_drew ?_ | refine blk_alloc ?_ _)); refine blk_far ?_ NB273_281.out _; (with_reducible repeat (first | refine blk_drewN ?_ _ | refine blk_drew ?_ | refine blk_alloc ?_ _)); refine blk_far ?_ NB273_281.out _; (with_reducible repeat (first | refine blk_drewN ?_ _ | refine blk_drew ?_ | refine blk_alloc ?_ _)); refine blk_far ?_ NB273_281.out _; (with_reducible repeat (first | refine blk_drewN ?_ _ | refine blk_drew ?_ | refine blk_alloc ?_ _)); refine blk_far ?_ NB273_281.out _; (with_reducible repeat (first | refine blk_drewN ?_ _ | refine blk_drew ?_ | refine blk_alloc ?_ _)); exact BK273.out) hb); have n2_ := Aside0.mk (blk_below (g := gb274) (o := .cells #[.slice none 0 0, .int .i64 0, .int .i64 0, .int .i64 0] 27 (0, 0)) (by (with_reducible repeat (first | refine blk_drewN ?_ _ | refine blk_drew ?_ | refine blk_alloc ?_ _)); refine blk_far ?_ NB274_281.out _; (with_reducible repeat (first | refine blk_drewN ?_ _ | refine blk_drew ?_ | refine blk_alloc ?_ _)); refine blk_far ?_ NB274_281.out _; (with_reducible repeat (first | refine blk_drewN ?_ _ | refine blk_drew ?_ | refine blk_alloc ?_ _)); refine blk_far ?_ NB274_281.out _; (with_reducible repeat (first | refine blk_drewN ?_ _ | refine blk_drew ?_ | refine blk_alloc ?_ _)); refine blk_far ?_ NB274_281.out _; (with_reducible repeat (first | refine blk_drewN ?_ _ | refine blk_drew ?_ | refine blk_alloc ?_ _)); exact BK274.out) hb); have n3_ := Aside0.mk (blk_below (g := gb281) (o := .cells #[.slice Ao13 t275.length co13, .int .i64 t278, .int .i64 t279, .int .i64 t280] 27 (0, 0)) (by (with_reducible repeat (first | refine blk_drewN ?_ _ | refine blk_drew ?_ | refine blk_alloc ?_ _)); refine blk_put (cs := #[.slice Ao13 t275.length co13, .int .i64 t278, .int .i64 t279, .int .i64 0]) ?_ 3 _ rfl; (with_reducible repeat (first | refine blk_drewN ?_ _ | refine blk_drew ?_ | refine blk_alloc ?_ _)); refine blk_put (cs := #[.slice Ao13 t275.length co13, .int .i64 t278, .int .i64 0, .int .i64 0]) ?_ 2 _ rfl; (with_reducible repeat (first | refine blk_drewN ?_ _ | refine blk_drew ?_ | refine blk_alloc ?_ _)); refine blk_put (cs := #[.slice Ao13 t275.length co13, .int .i64 0, .int .i64 0, .int .i64 0]) ?_ 1 _ rfl; (with_reducible repeat (first | refine blk_drewN ?_ _ | refine blk_drew ?_ | refine blk_alloc ?_ _)); refine blk_put (cs := #[.slice none 0 0, .int .i64 0, .int .i64 0, .int .i64 0]) ?_ 0 _ rfl; (with_reducible repeat (first | refine blk_drewN ?_ _ | refine blk_drew ?_ | refine blk_alloc ?_ _)); exact BK281.out) hb); have n4_ := Aside0.mk (below_step (by repeat (first | (with_reducible first | exact HB.out | apply below_alloc | apply pw_below_drewN | apply below_drew1 | refine below_set ?_ GE273.out | refine below_set ?_ GE274.out | refine below_set ?_ GE281.out) | exact HB.out)) hb); clear HO277; clear BK273; clear BK274; clear BK281; clear HB; have HO277 := n0_; have BK273 := n1_; have BK274 := n2_; have BK281 := n3_; have HB := n4_; clear n0_ n1_ n2_ n3_ n4_; (try clear hb); (try clear hb2); (try clear hk); (try clear hi)))
      go_meet
      case rel => exact ⟨_, (true), (by first | rfl | (simp; done) | (simp [*]; done)), H', ⟨by first | omega | exact Nat.le_refl _⟩, ⟨by (with_reducible repeat (first | apply Kd.R_alloc | apply Kd.R_drewN | apply Kd.R_drew)); exact HO277.out⟩, ⟨by (with_reducible repeat (first | refine blk_drewN ?_ _ | refine blk_drew ?_ | refine blk_alloc ?_ _)); exact BK273.out⟩, ⟨by (with_reducible repeat (first | refine blk_drewN ?_ _ | refine blk_drew ?_ | refine blk_alloc ?_ _)); exact BK274.out⟩, ⟨by (with_reducible repeat (first | refine blk_drewN ?_ _ | refine blk_drew ?_ | refine blk_alloc ?_ _)); exact BK281.out⟩, ⟨by repeat (first | (with_reducible first | exact HB.out | apply below_alloc | apply pw_below_drewN | apply below_drew1 | refine below_set ?_ GE273.out | refine below_set ?_ GE274.out | refine below_set ?_ GE281.out) | exact HB.out)⟩⟩
  case rest =>
    clear HC6
    try clear c1
    try clear c2
    try clear p2
    try clear c3
    try clear c6
    try clear p6
    try clear c9
    try clear c14
    try clear c15
    try clear c18
    try clear c20
    try clear c21
    try clear c21b0
    try clear c21b1
    try clear c22
    try clear c23
    try clear c25
    try clear c27
    try clear c28
    try clear c33
    try clear c34
    try clear c37
    try clear c38
    try clear hcz10_0
    try clear hcz10_1
    try clear hcz10_2
    try clear hcz10_3
    try clear hcz16_0
    try clear hcz16_1
    try clear hcz16_2
    try clear hcz16_3
    try clear hcz24_0
    try clear hcz24_1
    try clear hcz24_2
    try clear hcz24_3
    try clear hcz29_0
    try clear hcz29_1
    try clear hcz29_2
    try clear hcz29_3
    try clear hcz31_0
    try clear hcz31_1
    try clear hcz31_2
    try clear hcz31_3
    try clear hcz35_0
    try clear hcz35_1
    try clear hcz35_2
    try clear hcz35_3
    try clear hcz39_0
    try clear hcz39_1
    try clear hcz39_2
    try clear hcz39_3
    try clear hfz10_0
    try clear hfz10_1
    try clear hfz10_2
    try clear hfz10_3
    try clear hfz16_0
    try clear hfz16_1
    try clear hfz16_2
    try clear hfz16_3
    try clear hfz24_0
    try clear hfz24_1
    try clear hfz24_2
    try clear hfz24_3
    try clear hfz29_0
    try clear hfz29_1
    try clear hfz29_2
    try clear hfz29_3
    try clear hfz31_0
    try clear hfz31_1
    try clear hfz31_2
    try clear hfz31_3
    try clear hfz35_0
    try clear hfz35_1
    try clear hfz35_2
    try clear hfz35_3
    try clear hfz39_0
    try clear hfz39_1
    try clear hfz39_2
    try clear hfz39_3
    obtain ⟨kq, x35_5, rfl, HA, HJ5, HO_282000, BK273, BK274, BK281, HB⟩ := hcut
    cases kq with
    | zero => exact absurd HA.out (by simp [impl_Alloc.j0])
    | succ kj5 =>
      have H := HA.out
      clear HA
      simp only [impl_Alloc.j0] at H
      by_cases c41 : x35_5 = true
      · subst c41
        have H1 : (some (t275, t278, t279, t280, 0, false)) = some (r1, r2, r3, r4, r5, r6) := by rw [if_pos rfl] at H; exact H
        clear H
        have H := H1
        clear H1
        simp only [Option.some.injEq, Prod.mk.injEq] at H
        obtain ⟨rfl, rfl, rfl, rfl, rfl, rfl⟩ := H
        have hnb42 := NB281_273.out
        have hnc42 := NB273_281.out
        have hnb43 := NB281_274.out
        have hnc43 := NB274_281.out
        have hcz44_0 : wc.cell? ⟨gb281, 0, none⟩ = some (.slice Ao13 t275.length co13) := (blk_cell BK281.out 0).trans rfl
        have hcz44_1 : wc.cell? ⟨gb281, 1, none⟩ = some (.int .i64 t278) := (blk_cell BK281.out 1).trans rfl
        have hcz44_2 : wc.cell? ⟨gb281, 2, none⟩ = some (.int .i64 t279) := (blk_cell BK281.out 2).trans rfl
        have hcz44_3 : wc.cell? ⟨gb281, 3, none⟩ = some (.int .i64 t280) := (blk_cell BK281.out 3).trans rfl
        have hfz44_0 := blk_frozen BK281.out 0
        have hfz44_1 := blk_frozen BK281.out 1
        have hfz44_2 := blk_frozen BK281.out 2
        have hfz44_3 := blk_frozen BK281.out 3
        have hnb45 := NB274_273.out
        have hnc45 := NB273_274.out
        have hcz46_0 : wc.cell? ⟨gb274, 0, none⟩ = some (.slice none 0 0) := (blk_cell BK274.out 0).trans rfl
        have hcz46_1 : wc.cell? ⟨gb274, 1, none⟩ = some (.int .i64 0) := (blk_cell BK274.out 1).trans rfl
        have hcz46_2 : wc.cell? ⟨gb274, 2, none⟩ = some (.int .i64 0) := (blk_cell BK274.out 2).trans rfl
        have hcz46_3 : wc.cell? ⟨gb274, 3, none⟩ = some (.int .i64 0) := (blk_cell BK274.out 3).trans rfl
        have hfz46_0 := blk_frozen BK274.out 0
        have hfz46_1 := blk_frozen BK274.out 1
        have hfz46_2 := blk_frozen BK274.out 2
        have hfz46_3 := blk_frozen BK274.out 3
        go_wp2
        refine bodyPost_ret (results_ctt rfl _ _ gb274 27 #[.slice Ao13 t275.length co13, .int .i64 t278, .int .i64 t279, .int .i64 t280] (0, 0) _ rfl (by (with_reducible repeat (first | refine blk_drewN ?_ _ | refine blk_drew ?_ | refine blk_alloc ?_ _)); refine blk_put (cs := #[.slice Ao13 t275.length co13, .int .i64 t278, .int .i64 t279, .int .i64 0]) ?_ 3 _ rfl; (with_reducible repeat (first | refine blk_drewN ?_ _ | refine blk_drew ?_ | refine blk_alloc ?_ _)); refine blk_put (cs := #[.slice Ao13 t275.length co13, .int .i64 t278, .int .i64 0, .int .i64 0]) ?_ 2 _ rfl; (with_reducible repeat (first | refine blk_drewN ?_ _ | refine blk_drew ?_ | refine blk_alloc ?_ _)); refine blk_put (cs := #[.slice Ao13 t275.length co13, .int .i64 0, .int .i64 0, .int .i64 0]) ?_ 1 _ rfl; (with_reducible repeat (first | refine blk_drewN ?_ _ | refine blk_drew ?_ | refine blk_alloc ?_ _)); refine blk_put (cs := #[.slice none 0 0, .int .i64 0, .int .i64 0, .int .i64 0]) ?_ 0 _ rfl; (with_reducible repeat (first | refine blk_drewN ?_ _ | refine blk_drew ?_ | refine blk_alloc ?_ _)); exact BK274.out) Try.underlying27 rfl (by kernel_rfl)) rfl ?_
        exact ⟨_, by first | rfl | (simp [errW_none, errW_some] <;> rfl) | (simp [*, errW_none, errW_some] <;> rfl), by (with_reducible repeat (first | apply Kd.R_alloc | apply Kd.R_drewN | apply Kd.R_drew)); exact Kd.R_mono (Kd.R_far (p := ⟨gb274, 3, none⟩) (Kd.R_far (p := ⟨gb274, 2, none⟩) (Kd.R_far (p := ⟨gb274, 1, none⟩) (Kd.R_far (p := ⟨gb274, 0, none⟩) (Kd.R_types HO_282000.out BK274.out (by decide)) (fun _ hk => hk.2) (.slice Ao13 t275.length co13)) (fun _ hk => hk.2) (.int .i64 t278)) (fun _ hk => hk.2) (.int .i64 t279)) (fun _ hk => hk.2) (.int .i64 t280)) (fun _ hk => trivial), by repeat (first | (with_reducible first | exact HB.out | apply below_alloc | apply pw_below_drewN | apply below_drew1 | refine below_set ?_ GE273.out | refine below_set ?_ GE274.out | refine below_set ?_ GE281.out) | exact HB.out)⟩
      · replace c41 := Bool.eq_false_iff.mpr c41
        subst c41
        have H1 : (if a1 = true then (impl_Alloc.j1 kj5 l3 (wrap64 ((wrap64 (2 * (wrap64 ((wrap64 (64 * a2)) + (l3.length : Int))))) + 1)) l0_0 a0_1 a0_2 a0_3 t275 t278 t279 t280) else (impl_Alloc.j1 kj5 l3 (wrap64 (2 * (wrap64 ((wrap64 (64 * a2)) + (l3.length : Int))))) l0_0 a0_1 a0_2 a0_3 t275 t278 t279 t280)) = some (r1, r2, r3, r4, r5, r6) := by rw [if_neg (show ¬ (false = true) by decide)] at H; exact H
        clear H
        have H := H1
        clear H1
        have HC47 := Aside0.mk H
        clear H
        go_upto_if 43 with (fail)
        go_cut [12] (fun v12 wc => ∃ (kq : Nat) (x12_46 : Int), v12 = .int .i64 x12_46 ∧ Aside0 (impl_Alloc.j1 kq l3 x12_46 l0_0 a0_1 a0_2 a0_3 t275 t278 t279 t280 = some (r1, r2, r3, r4, r5, r6)) ∧ Aside0 (kq ≤ kj5) ∧ Aside0 (Kd.R (Kd.int .i64) 3 wc w.heap.size (fun _ => True) (.slice Ao13 t275.length co13) t275) ∧ Aside0 (wc.heap[gb273]? = some (.cells #[(.slice A0_0 l0_0.length c0_0), .int .i64 a0_1, .int .i64 a0_2, .int .i64 a0_3] 27 (0, 0))) ∧ Aside0 (wc.heap[gb274]? = some (.cells #[(.slice none 0 0), .int .i64 0, .int .i64 0, .int .i64 0] 27 (0, 0))) ∧ Aside0 (wc.heap[gb281]? = some (.cells #[(.slice Ao13 t275.length co13), .int .i64 t278, .int .i64 t279, .int .i64 t280] 27 (0, 0))) ∧ Aside0 (Below w.heap.size w wc))
        case first =>
          have H := HC47.out
          clear HC47
          by_cases c48 : a1 = true
          · subst c48
            have H1 : (impl_Alloc.j1 kj5 l3 (wrap64 ((wrap64 (2 * (wrap64 ((wrap64 (64 * a2)) + (l3.length : Int))))) + 1)) l0_0 a0_1 a0_2 a0_3 t275 t278 t279 t280) = some (r1, r2, r3, r4, r5, r6) := by rw [if_pos rfl] at H; exact H
            clear H
            have H := H1
            clear H1
            have H' := Aside0.mk H
            clear H
            go_wp2
            go_meet
            case rel => exact ⟨_, (wrap64 ((wrap64 (2 * (wrap64 ((wrap64 (64 * a2)) + (l3.length : Int))))) + 1)), (by first | rfl | (simp; done) | (simp [*]; done)), H', ⟨by have := HJ5.out; first | omega | exact Nat.le_refl _⟩, ⟨by (with_reducible repeat (first | apply Kd.R_alloc | apply Kd.R_drewN | apply Kd.R_drew)); exact HO_282000.out⟩, ⟨by (with_reducible repeat (first | refine blk_drewN ?_ _ | refine blk_drew ?_ | refine blk_alloc ?_ _)); exact BK273.out⟩, ⟨by (with_reducible repeat (first | refine blk_drewN ?_ _ | refine blk_drew ?_ | refine blk_alloc ?_ _)); exact BK274.out⟩, ⟨by (with_reducible repeat (first | refine blk_drewN ?_ _ | refine blk_drew ?_ | refine blk_alloc ?_ _)); exact BK281.out⟩, ⟨by repeat (first | (with_reducible first | exact HB.out | apply below_alloc | apply pw_below_drewN | apply below_drew1 | refine below_set ?_ GE273.out | refine below_set ?_ GE274.out | refine below_set ?_ GE281.out) | exact HB.out)⟩⟩
          · replace c48 := Bool.eq_false_iff.mpr c48
            subst c48
            have H1 : (impl_Alloc.j1 kj5 l3 (wrap64 (2 * (wrap64 ((wrap64 (64 * a2)) + (l3.length : Int))))) l0_0 a0_1 a0_2 a0_3 t275 t278 t279 t280) = some (r1, r2, r3, r4, r5, r6) := by rw [if_neg (show ¬ (false = true) by decide)] at H; exact H
            clear H
            have H := H1
            clear H1
            have H' := Aside0.mk H
            clear H
            go_wp2
            go_meet
            case rel => exact ⟨_, (wrap64 (2 * (wrap64 ((wrap64 (64 * a2)) + (l3.length : Int))))), (by first | rfl | (simp; done) | (simp [*]; done)), H', ⟨by have := HJ5.out; first | omega | exact Nat.le_refl _⟩, ⟨by (with_reducible repeat (first | apply Kd.R_alloc | apply Kd.R_drewN | apply Kd.R_drew)); exact HO_282000.out⟩, ⟨by (with_reducible repeat (first | refine blk_drewN ?_ _ | refine blk_drew ?_ | refine blk_alloc ?_ _)); exact BK273.out⟩, ⟨by (with_reducible repeat (first | refine blk_drewN ?_ _ | refine blk_drew ?_ | refine blk_alloc ?_ _)); exact BK274.out⟩, ⟨by (with_reducible repeat (first | refine blk_drewN ?_ _ | refine blk_drew ?_ | refine blk_alloc ?_ _)); exact BK281.out⟩, ⟨by repeat (first | (with_reducible first | exact HB.out | apply below_alloc | apply pw_below_drewN | apply below_drew1 | refine below_set ?_ GE273.out | refine below_set ?_ GE274.out | refine below_set ?_ GE281.out) | exact HB.out)⟩⟩
        case rest =>
          clear HC47
          try clear c1
          try clear c2
          try clear p2
          try clear c3
          try clear c4
          try clear c6
          try clear p6
          try clear c9
          try clear c14
          try clear c15
          try clear c18
          try clear c20
          try clear c21
          try clear c21b0
          try clear c21b1
          try clear c22
          try clear c23
          try clear c25
          try clear c27
          try clear c28
          try clear c33
          try clear c34
          try clear c37
          try clear c38
          try clear c41
          try clear c42
          try clear c43
          try clear c45
          try clear c48
          try clear hcz10_0
          try clear hcz10_1
          try clear hcz10_2
          try clear hcz10_3
          try clear hcz16_0
          try clear hcz16_1
          try clear hcz16_2
          try clear hcz16_3
          try clear hcz24_0
          try clear hcz24_1
          try clear hcz24_2
          try clear hcz24_3
          try clear hcz29_0
          try clear hcz29_1
          try clear hcz29_2
          try clear hcz29_3
          try clear hcz31_0
          try clear hcz31_1
          try clear hcz31_2
          try clear hcz31_3
          try clear hcz35_0
          try clear hcz35_1
          try clear hcz35_2
          try clear hcz35_3
          try clear hcz39_0
          try clear hcz39_1
          try clear hcz39_2
          try clear hcz39_3
          try clear hcz44_0
          try clear hcz44_1
          try clear hcz44_2
          try clear hcz44_3
          try clear hcz46_0
          try clear hcz46_1
          try clear hcz46_2
          try clear hcz46_3
          try clear hfz10_0
          try clear hfz10_1
          try clear hfz10_2
          try clear hfz10_3
          try clear hfz16_0
          try clear hfz16_1
          try clear hfz16_2
          try clear hfz16_3
          try clear hfz24_0
          try clear hfz24_1
          try clear hfz24_2
          try clear hfz24_3
          try clear hfz29_0
          try clear hfz29_1
          try clear hfz29_2
          try clear hfz29_3
          try clear hfz31_0
          try clear hfz31_1
          try clear hfz31_2
          try clear hfz31_3
          try clear hfz35_0
          try clear hfz35_1
          try clear hfz35_2
          try clear hfz35_3
          try clear hfz39_0
          try clear hfz39_1
          try clear hfz39_2
          try clear hfz39_3
          try clear hfz44_0
          try clear hfz44_1
          try clear hfz44_2
          try clear hfz44_3
          try clear hfz46_0
          try clear hfz46_1
          try clear hfz46_2
          try clear hfz46_3
          try clear p2
          try clear p6
          obtain ⟨kq, x12_46, rfl, HA, HJ46, HO_282000, BK273, BK274, BK281, HB⟩ := hcut
          cases kq with
          | zero => exact absurd HA.out (by simp [impl_Alloc.j1])
          | succ kj46 =>
            have H := HA.out
            clear HA
            simp only [impl_Alloc.j1] at H
            replace H := Option.bind_eq_some_iff.mp H
            obtain ⟨t285, A490, H⟩ := H
            replace H : (if 0 ≤ a0_3 then (if a0_3 < (t275.length : Int) then (if 0 ≤ (wrap64 (a0_3 + 1)) then (if (wrap64 (a0_3 + 1)) ≤ (t275.length : Int) then ((some (copyAt (t275.set (a0_3 : Int).toNat t285) ((wrap64 (a0_3 + 1)) : Int).toNat l3 : List Int)).bind fun y291 => ((impl_HeapOk.f kj46 y291 t278 t279 (wrap64 (t280 + (wrap64 (1 + (l3.length : Int)))))).bind fun t292 => (if t292 = true then (some (y291, t278, t279, wrap64 (t280 + (wrap64 (1 + (l3.length : Int)))), a0_3, true)) else ((impl_copyHeap.f l0_0 a0_1 a0_2 a0_3).bind fun bt293 => (some (bt293.1, bt293.2.1, bt293.2.2.1, bt293.2.2.2, 0, false)))))) else (none)) else (none)) else (none)) else (none)) = some (r1, r2, r3, r4, r5, r6) := H
            have A49 := Aside0.mk A490
            clear A490
            by_cases c50 : 0 ≤ a0_3
            · rw [if_pos c50] at H
              have c50b0 : decide (0 ≤ a0_3) = true := decide_eq_true c50
              clear c50
              by_cases c51 : a0_3 < (t275.length : Int)
              · rw [if_pos c51] at H
                have c51b0 : decide (a0_3 < (t275.length : Int)) = true := decide_eq_true c51
                clear c51
                obtain ⟨y286, hy286⟩ : ∃ y_ : List Int, y_ = (t275.set (a0_3 : Int).toNat t285) := ⟨_, rfl⟩
                replace H : (if 0 ≤ (wrap64 (a0_3 + 1)) then (if (wrap64 (a0_3 + 1)) ≤ (t275.length : Int) then ((some (copyAt y286 ((wrap64 (a0_3 + 1)) : Int).toNat l3 : List Int)).bind fun y291 => ((impl_HeapOk.f kj46 y291 t278 t279 (wrap64 (t280 + (wrap64 (1 + (l3.length : Int)))))).bind fun t292 => (if t292 = true then (some (y291, t278, t279, wrap64 (t280 + (wrap64 (1 + (l3.length : Int)))), a0_3, true)) else ((impl_copyHeap.f l0_0 a0_1 a0_2 a0_3).bind fun bt293 => (some (bt293.1, bt293.2.1, bt293.2.2.1, bt293.2.2.2, 0, false)))))) else (none)) else (none)) = some (r1, r2, r3, r4, r5, r6) := by first | (rw [hy286]; with_reducible exact H) | (have H2_ := (Option.bind_some _ _).symm.trans H; rw [hy286]; with_reducible exact H2_) | (have H2_ := (Option.bind_some _ _).symm.trans H; with_reducible exact H2_) | with_reducible exact H | (rw [hy286]; exact H) | exact H
                have Ny286 := Aside0.mk hy286
                clear hy286
                obtain ⟨ji53, hji53⟩ : ∃ j_ : Int, (wrap64 (a0_3 + 1)) = j_ := ⟨_, rfl⟩
                replace H : (if 0 ≤ (ji53) then (if (ji53) ≤ (t275.length : Int) then ((some (copyAt y286 ((ji53) : Int).toNat l3 : List Int)).bind fun y291 => ((impl_HeapOk.f kj46 y291 t278 t279 (wrap64 (t280 + (wrap64 (1 + (l3.length : Int)))))).bind fun t292 => (if t292 = true then (some (y291, t278, t279, wrap64 (t280 + (wrap64 (1 + (l3.length : Int)))), a0_3, true)) else ((impl_copyHeap.f l0_0 a0_1 a0_2 a0_3).bind fun bt293 => (some (bt293.1, bt293.2.1, bt293.2.2.1, bt293.2.2.2, 0, false)))))) else (none)) else (none)) = some (r1, r2, r3, r4, r5, r6) := by first | (rw [hji53] at H; exact H) | (simp only [hji53] at H ⊢; exact H)
                (try rw [hji53] at A49)
                have hji53w : (IntKind.i64.wrap (a0_3 + 1)) = ji53 := (i64_w _).trans hji53
                by_cases c54 : 0 ≤ (ji53)
                · rw [if_pos c54] at H
                  have c54b0 := eq_true c54
                  have c54b1 : decide (0 ≤ (ji53)) = true := decide_eq_true c54
                  clear c54
                  by_cases c55 : (ji53) ≤ (t275.length : Int)
                  · rw [if_pos c55] at H
                    have c55b0 := eq_true c55
                    have c55b1 : decide ((ji53) ≤ (t275.length : Int)) = true := decide_eq_true c55
                    clear c55
                    obtain ⟨y287, hy287⟩ : ∃ y_ : List Int, y_ = (y286.drop ((ji53) : Int).toNat) := ⟨_, rfl⟩
                    replace H : ((some (copyAt y286 ((ji53) : Int).toNat l3 : List Int)).bind fun y291 => ((impl_HeapOk.f kj46 y291 t278 t279 (wrap64 (t280 + (wrap64 (1 + (l3.length : Int)))))).bind fun t292 => (if t292 = true then (some (y291, t278, t279, wrap64 (t280 + (wrap64 (1 + (l3.length : Int)))), a0_3, true)) else ((impl_copyHeap.f l0_0 a0_1 a0_2 a0_3).bind fun bt293 => (some (bt293.1, bt293.2.1, bt293.2.2.1, bt293.2.2.2, 0, false)))))) = some (r1, r2, r3, r4, r5, r6) := by first | (rw [hy287]; with_reducible exact H) | (have H2_ := (Option.bind_some _ _).symm.trans H; rw [hy287]; with_reducible exact H2_) | (have H2_ := (Option.bind_some _ _).symm.trans H; with_reducible exact H2_) | with_reducible exact H | (rw [hy287]; exact H) | exact H
                    have Ny287 := Aside0.mk hy287
                    clear hy287
                    obtain ⟨y291, hy291⟩ : ∃ y_ : List Int, y_ = (copyAt y286 ((ji53) : Int).toNat l3) := ⟨_, rfl⟩
                    replace H : ((impl_HeapOk.f kj46 y291 t278 t279 (wrap64 (t280 + (wrap64 (1 + (l3.length : Int)))))).bind fun t292 => (if t292 = true then (some (y291, t278, t279, wrap64 (t280 + (wrap64 (1 + (l3.length : Int)))), a0_3, true)) else ((impl_copyHeap.f l0_0 a0_1 a0_2 a0_3).bind fun bt293 => (some (bt293.1, bt293.2.1, bt293.2.2.1, bt293.2.2.2, 0, false))))) = some (r1, r2, r3, r4, r5, r6) := by first | (rw [hy291]; with_reducible exact H) | (have H2_ := (Option.bind_some _ _).symm.trans H; rw [hy291]; with_reducible exact H2_) | (have H2_ := (Option.bind_some _ _).symm.trans H; with_reducible exact H2_) | with_reducible exact H | (rw [hy291]; exact H) | exact H
                    have Ny291 := Aside0.mk hy291
                    clear hy291
                    replace H := Option.bind_eq_some_iff.mp H
                    obtain ⟨t292, A560, H⟩ := H
                    replace H : (if t292 = true then (some (y291, t278, t279, wrap64 (t280 + (wrap64 (1 + (l3.length : Int)))), a0_3, true)) else ((impl_copyHeap.f l0_0 a0_1 a0_2 a0_3).bind fun bt293 => (some (bt293.1, bt293.2.1, bt293.2.2.1, bt293.2.2.2, 0, false)))) = some (r1, r2, r3, r4, r5, r6) := H
                    have A56 := Aside0.mk A560
                    clear A560
                    by_cases c57 : t292 = true
                    · subst c57
                      have H1 : (some (y291, t278, t279, wrap64 (t280 + (wrap64 (1 + (l3.length : Int)))), a0_3, true)) = some (r1, r2, r3, r4, r5, r6) := by rw [if_pos rfl] at H; exact H
                      clear H
                      have H := H1
                      clear H1
                      simp only [Option.some.injEq, Prod.mk.injEq] at H
                      obtain ⟨rfl, rfl, rfl, rfl, rfl, rfl⟩ := H
                      try go_wp2
                      have n0_ := Aside0.mk (Kd.R_drew HO_282000.out)
                      have n1_ := Aside0.mk (blk_drew BK273.out)
                      have n2_ := Aside0.mk (blk_drew BK274.out)
                      have n3_ := Aside0.mk (blk_drew BK281.out)
                      have n4_ := Aside0.mk (below_drew1 HB.out)
                      clear HO_282000
                      clear BK273
                      clear BK274
                      clear BK281
                      clear HB
                      have HO_282000 := n0_
                      have BK273 := n1_
                      have BK274 := n2_
                      have BK281 := n3_
                      have HB := n4_
                      clear n0_ n1_ n2_ n3_ n4_
                      refine start_ (n := 8) (S := fun w' => w'.cell? ⟨gb281, 0, none⟩ = some (.slice Ao13 t275.length co13) ∧ w'.cell? ⟨gb281, 1, none⟩ = some (.int .i64 t278) ∧ w'.cell? ⟨gb281, 2, none⟩ = some (.int .i64 t279) ∧ w'.cell? ⟨gb281, 3, none⟩ = some (.int .i64 t280) ∧ w'.cell? ⟨gb273, 0, none⟩ = some (.slice A0_0 l0_0.length c0_0) ∧ w'.cell? ⟨gb273, 1, none⟩ = some (.int .i64 a0_1) ∧ w'.cell? ⟨gb273, 2, none⟩ = some (.int .i64 a0_2) ∧ w'.cell? ⟨gb273, 3, none⟩ = some (.int .i64 a0_3)) (ds := [7]) #[false, false, false, false, false, false, false, false] (by kernel_rfl) rfl rfl ⟨(blk_cell BK281.out 0).trans rfl, (blk_cell BK281.out 1).trans rfl, (blk_cell BK281.out 2).trans rfl, (blk_cell BK281.out 3).trans rfl, (blk_cell BK273.out 0).trans rfl, (blk_cell BK273.out 1).trans rfl, (blk_cell BK273.out 2).trans rfl, (blk_cell BK273.out 3).trans rfl⟩ (fun hHeld => ?_); refine with_tabW impl_Alloc.tab7 impl_Alloc.bits7 (fun HT_ HW_ => ?_)
                      generalize wc.drew = w58 at HO_282000 BK273 BK274 BK281 HB hHeld ⊢
                      refine pure_ (i := 0) (N := some 46) (v := ?_) (a' := ?_) #[true, false, false, false, false, false, false, false] rfl rfl (any_of HT_.out (by kernel_rfl)) (fun _ _ _ h => h) (Or.inl ⟨by rfl, ?_⟩) ?_ ?_
                      rotate_left
                      · intro w'
                        go_simp
                        with_reducible rfl
                      rotate_left
                      · simp only [Act.put, List.setIfInBounds_toArray, List.set_cons_zero, List.set_cons_succ, i64_w, i32_w]
                        rfl
                      refine pure_ (i := 2) (N := some 48) (v := ?_) (a' := ?_) #[true, false, true, false, false, false, false, false] rfl rfl (any_of HT_.out (by kernel_rfl)) (fun _ _ _ h => h) (Or.inl ⟨by rfl, ?_⟩) ?_ ?_
                      rotate_left
                      · intro w'
                        go_simp
                        with_reducible rfl
                      rotate_left
                      · simp only [Act.put, List.setIfInBounds_toArray, List.set_cons_zero, List.set_cons_succ, i64_w, i32_w]
                        rfl
                      refine pure_ (i := 4) (N := some 50) (v := ?_) (a' := ?_) #[true, false, true, false, true, false, false, false] rfl rfl (any_of HT_.out (by kernel_rfl)) (fun _ _ _ h => h) (Or.inl ⟨by rfl, ?_⟩) ?_ ?_
                      rotate_left
                      · intro w'
                        go_simp
                        with_reducible rfl
                      rotate_left
                      · simp only [Act.put, List.setIfInBounds_toArray, List.set_cons_zero, List.set_cons_succ, i64_w, i32_w]
                        rfl
                      refine take_ (i := 1) (N := some 47) (v := ?_) (a' := ?_) #[true, true, true, false, true, false, false, false] rfl rfl (take_ofW HT_.out HW_.out (by kernel_rfl)) (fun _ _ _ h => h) (Or.inl ⟨by rfl, ?_⟩) hHeld ?_ ?_
                      rotate_left
                      · rintro w' ⟨s0, s1, s2, s3, s4, s5, s6, s7⟩
                        go_simp
                        with_reducible rfl
                      rotate_left
                      · simp only [Act.put, List.setIfInBounds_toArray, List.set_cons_zero, List.set_cons_succ, i64_w, i32_w]
                        rfl
                      refine take_ (i := 3) (N := some 49) (v := ?_) (a' := ?_) #[true, true, true, true, true, false, false, false] rfl rfl (take_ofW HT_.out HW_.out (by kernel_rfl)) (fun _ _ _ h => h) (Or.inl ⟨by rfl, ?_⟩) hHeld ?_ ?_
                      rotate_left
                      · rintro w' ⟨s0, s1, s2, s3, s4, s5, s6, s7⟩
                        go_simp
                        with_reducible rfl
                      rotate_left
                      · simp only [Act.put, List.setIfInBounds_toArray, List.set_cons_zero, List.set_cons_succ, i64_w, i32_w]
                        rfl
                      refine one_ (i := 5) (N := some 51) #[true, true, true, true, true, true, false, false] rfl rfl (one_of HT_.out (by kernel_rfl)) (by decide) (fun K hK => ?_)
                      refine goes_ Try.func65 (by kernel_rfl) rfl #[.int .i64 x12_46] (by rfl) rfl rfl (by (try simp only [List.map_toArray, List.map_cons, List.map_nil]); first | done | rfl | (simp only [List.length_drop, List.length_take]; rfl)) ?_
                      with_reducible refine (impl_IntWord.calls x12_46 t285 _ A49.out).mono ?_
                      rintro e w' ⟨rfl, ⟨nd, rfl⟩⟩
                      refine ⟨_, rfl, ?_⟩
                      have p52 : 0 ≤ (a0_3 : Int) := of_decide_eq_true (by first | (with_reducible assumption) | assumption)
                      have q52 : (a0_3 : Int) < ((t275.length : Int) : Int) := of_decide_eq_true (by first | (with_reducible assumption) | assumption)
                      obtain ⟨go52, co52, eo52, gb52, gl52, cl52, HG52⟩ := Kd.R_form HO_282000.out (by omega)
                      (first | cases eo52 | (injection eo52 with ea_ en_ ec_; (first | subst ea_ | (injection ea_ with ea_; subst ea_)); subst ec_; clear en_))
                      have GB52 := Aside0.mk gb52
                      have GG52 := Aside0.mk HG52
                      clear gb52 gl52 HG52
                      obtain ⟨hx52_0, hf52_0⟩ := Kd.R_celln 0 HO_282000.out (a0_3 : Int) p52 q52
                      replace p52 := eq_true p52
                      replace q52 := eq_true q52
                      have HP59 := Kd.R_putn (Kd.R_drewN (HO_282000.out) nd) (a0_3 : Int) t285
                      rw [← Ny286.out] at HP59
                      have HQ59 := Aside0.mk HP59
                      clear HP59
                      refine hK.out _ _ ⟨(blk_cell BK281.out 0).trans rfl, (blk_cell BK281.out 1).trans rfl, (blk_cell BK281.out 2).trans rfl, (blk_cell BK281.out 3).trans rfl, (blk_cell BK273.out 0).trans rfl, (blk_cell BK273.out 1).trans rfl, (blk_cell BK273.out 2).trans rfl, (blk_cell BK273.out 3).trans rfl⟩ (fun hHeld => ?_)
                      clear hK K
                      refine norm_ (a' := ?_) ?_ ?_
                      rotate_left
                      · show Act.put _ (some 51) _ = _
                        simp only [Act.put, List.setIfInBounds_toArray, List.set_cons_zero, List.set_cons_succ, i64_w, i32_w]
                        rfl
                      refine pure_ (i := 6) (N := some 52) (v := ?_) (a' := ?_) #[true, true, true, true, true, true, true, false] rfl rfl (any_of HT_.out (by kernel_rfl)) (fun _ _ _ h => h) (Or.inl ⟨by rfl, ?_⟩) ?_ ?_
                      rotate_left
                      · intro w'
                        go_simp
                        with_reducible rfl
                      rotate_left
                      · simp only [Act.put, List.setIfInBounds_toArray, List.set_cons_zero, List.set_cons_succ, i64_w, i32_w]
                        rfl
                      refine last_ (i := 7) (N := none) #[true, true, true, true, true, true, true, true] rfl rfl (one_of HT_.out (by kernel_rfl)) (by decide) (fun K hK => ?_)
                      refine skip_ (w1 := ?_) (by rfl) rfl ?_ ?_
                      rotate_left
                      · go_simp
                        rfl
                      refine hK.out _ _ ?_
                      clear hK K
                      refine done_ (done_of HT_.out (by kernel_rfl)) ?_
                      have n0_ : Aside0 (Kd.R (Kd.int .i64) 3 ((w58.drewN nd).setCell ⟨go52, (a0_3 : Int).toNat, none⟩ (.int .i64 t285)) w.heap.size (fun _ => True) (.slice (some ⟨go52, 0, none⟩) t275.length co13) y286) := ⟨by (with_reducible repeat (first | apply Kd.R_alloc | apply Kd.R_drewN | apply Kd.R_drew)); exact HQ59.out⟩
                      have n1_ : Aside0 (((w58.drewN nd).setCell ⟨go52, (a0_3 : Int).toNat, none⟩ (.int .i64 t285)).heap[gb273]? = some (.cells #[.slice A0_0 l0_0.length c0_0, .int .i64 a0_1, .int .i64 a0_2, .int .i64 a0_3] 27 (0, 0))) := ⟨by (with_reducible repeat (first | refine blk_drewN ?_ _ | refine blk_drew ?_ | refine blk_alloc ?_ _)); refine blk_far ?_ (by have h_ := Kd.R_ne HO_282000.out BK273.out (by decide); intro e_; exact h_ (by rw [e_]; rfl)) _; (with_reducible repeat (first | refine blk_drewN ?_ _ | refine blk_drew ?_ | refine blk_alloc ?_ _)); exact BK273.out⟩
                      have n2_ : Aside0 (((w58.drewN nd).setCell ⟨go52, (a0_3 : Int).toNat, none⟩ (.int .i64 t285)).heap[gb274]? = some (.cells #[.slice none 0 0, .int .i64 0, .int .i64 0, .int .i64 0] 27 (0, 0))) := ⟨by (with_reducible repeat (first | refine blk_drewN ?_ _ | refine blk_drew ?_ | refine blk_alloc ?_ _)); refine blk_far ?_ (by have h_ := Kd.R_ne HO_282000.out BK274.out (by decide); intro e_; exact h_ (by rw [e_]; rfl)) _; (with_reducible repeat (first | refine blk_drewN ?_ _ | refine blk_drew ?_ | refine blk_alloc ?_ _)); exact BK274.out⟩
                      have n3_ : Aside0 (((w58.drewN nd).setCell ⟨go52, (a0_3 : Int).toNat, none⟩ (.int .i64 t285)).heap[gb281]? = some (.cells #[.slice (some ⟨go52, 0, none⟩) t275.length co13, .int .i64 t278, .int .i64 t279, .int .i64 t280] 27 (0, 0))) := ⟨by (with_reducible repeat (first | refine blk_drewN ?_ _ | refine blk_drew ?_ | refine blk_alloc ?_ _)); refine blk_far ?_ (by have h_ := Kd.R_ne HO_282000.out BK281.out (by decide); intro e_; exact h_ (by rw [e_]; rfl)) _; (with_reducible repeat (first | refine blk_drewN ?_ _ | refine blk_drew ?_ | refine blk_alloc ?_ _)); exact BK281.out⟩
                      have n4_ : Aside0 (Below w.heap.size w ((w58.drewN nd).setCell ⟨go52, (a0_3 : Int).toNat, none⟩ (.int .i64 t285))) := ⟨by repeat (first | (with_reducible first | exact HB.out | apply below_alloc | apply pw_below_drewN | apply below_drew1 | refine below_set ?_ GB52.out | refine below_set ?_ GE273.out | refine below_set ?_ GE274.out | refine below_set ?_ GE281.out) | exact HB.out)⟩
                      (try clear HO_282000)
                      (try clear BK273)
                      (try clear BK274)
                      (try clear BK281)
                      (try clear HB)
                      generalize ((w58.drewN nd).setCell ⟨go52, (a0_3 : Int).toNat, none⟩ (.int .i64 t285)) = w60 at n0_ n1_ n2_ n3_ n4_ ⊢
                      have HO_282000 := n0_
                      have BK273 := n1_
                      have BK274 := n2_
                      have BK281 := n3_
                      have HB := n4_
                      clear n0_ n1_ n2_ n3_ n4_
                      have hnb61 := NB281_273.out
                      have hnc61 := NB273_281.out
                      have hnb62 := NB281_274.out
                      have hnc62 := NB274_281.out
                      have hcz63_0 : w60.cell? ⟨gb281, 0, none⟩ = some (.slice (some ⟨go52, 0, none⟩) t275.length co13) := (blk_cell BK281.out 0).trans rfl
                      have hcz63_1 : w60.cell? ⟨gb281, 1, none⟩ = some (.int .i64 t278) := (blk_cell BK281.out 1).trans rfl
                      have hcz63_2 : w60.cell? ⟨gb281, 2, none⟩ = some (.int .i64 t279) := (blk_cell BK281.out 2).trans rfl
                      have hcz63_3 : w60.cell? ⟨gb281, 3, none⟩ = some (.int .i64 t280) := (blk_cell BK281.out 3).trans rfl
                      have hfz63_0 := blk_frozen BK281.out 0
                      have hfz63_1 := blk_frozen BK281.out 1
                      have hfz63_2 := blk_frozen BK281.out 2
                      have hfz63_3 := blk_frozen BK281.out 3
                      have hnb64 := NB273_274.out
                      have hnc64 := NB274_273.out
                      have hcz65_0 : w60.cell? ⟨gb273, 0, none⟩ = some (.slice A0_0 l0_0.length c0_0) := (blk_cell BK273.out 0).trans rfl
                      have hcz65_1 : w60.cell? ⟨gb273, 1, none⟩ = some (.int .i64 a0_1) := (blk_cell BK273.out 1).trans rfl
                      have hcz65_2 : w60.cell? ⟨gb273, 2, none⟩ = some (.int .i64 a0_2) := (blk_cell BK273.out 2).trans rfl
                      have hcz65_3 : w60.cell? ⟨gb273, 3, none⟩ = some (.int .i64 a0_3) := (blk_cell BK273.out 3).trans rfl
                      have hfz65_0 := blk_frozen BK273.out 0
                      have hfz65_1 := blk_frozen BK273.out 1
                      have hfz65_2 := blk_frozen BK273.out 2
                      have hfz65_3 := blk_frozen BK273.out 3
                      have hlx66 := (Kd.R_reads' HO_282000.out).1
                      have q66 : ((ji53) : Int) ≤ ((t275.length : Int) : Int) := of_decide_eq_true (by first | (with_reducible assumption) | assumption)
                      obtain ⟨i066, hi066, _, hsz66, _⟩ := info_parts info3
                      have hroom66 : t275.length ≤ co13 := (Kd.R_reads' HO_282000.out).2.1
                      have hroomc66 : y286.length ≤ co13 := (by rw [← hlx66]; exact hroom66)
                      have hC66 : Kd.C (Kd.int .i64) _ (some ⟨go52, 0, none⟩) y286.length y286 := (Kd.R_reads' HO_282000.out).2.2
                      have q066 : (0 : Int) ≤ ((ji53) : Int) := of_decide_eq_true (by first | (with_reducible assumption) | assumption)
                      have hcut66 := cut_from (P := Try.prog) 22 3 .i64 Try.underlying22 hi066 1 hsz66 (some ⟨go52, 0, none⟩) t275.length co13 (ji53) q066 q66
                      have hr66 := Kd.C_drop (m := ((ji53) : Int).toNat) (c := co13) hC66 (by omega) hroomc66
                      obtain ⟨A66, hA66⟩ : ∃ A1, A1 = (if co13 = ((ji53) : Int).toNat then (some ⟨go52, 0, none⟩) else ((some ⟨go52, 0, none⟩) : Option Addr).map (·.add (((ji53) : Int).toNat * 1))) := ⟨_, rfl⟩
                      obtain ⟨c66, hc66⟩ : ∃ c1, c1 = co13 - ((ji53) : Int).toNat := ⟨_, rfl⟩
                      have hy66 : y287.length = t275.length - ((ji53) : Int).toNat := (by rw [Ny287.out, List.length_drop] <;> omega)
                      rw [show (y286).drop ((ji53) : Int).toNat = y287 from Ny287.out.symm] at hr66
                      replace hr66 : Kd.C (Kd.int .i64) _ A66 y287.length y287 := (by rw [hA66]; exact hr66)
                      rw [← hy66, ← hA66, ← hc66] at hcut66
                      have HR290 := Aside0.mk hr66
                      have HC290 := Aside0.mk (show y287.length ≤ c66 from by rw [hy66, hc66]; exact Nat.sub_le_sub_right hroom66 _)
                      clear hr66 hC66 hroom66 hi066 hsz66 hc66 hroomc66
                      have KY66 := Aside0.mk hy66
                      have KA66 := Aside0.mk hA66
                      clear hy66 hA66
                      have KE66 := Aside0.mk hlx66
                      have KL66 := Aside0.mk (show ((ji53) : Int).toNat ≤ y286.length from by omega)
                      clear hlx66
                      replace q66 := eq_true q66
                      try go_wp2_with (first | ((with_reducible refine gate_builtin (b := .copy) (xs := #[.tmp 58, .tmp 59]) rfl ?_); (try (refine gate_guard (by rfl) ?_; dsimp only)); refine Kd.R_copyto .i64 (w0 := w) w.heap.size rfl (.tmp 58) (.tmp 59) 22 22 3 rfl Try.underlying22 (by kernel_rfl) (g := go52) (n := t275.length) (c := co13) (lo := ((ji53) : Int).toNat) (A := A66) (dl := y287.length) (c1 := c66) (SA := A3) (m := l3.length) (sc := c3) (xs := y286) (ys := l3) rfl rfl ?hA ?hd (by (with_reducible repeat (first | apply Kd.R_alloc | apply Kd.R_drewN | apply Kd.R_drew)); exact HO_282000.out) ?hl ?hS (by repeat (first | (with_reducible first | exact HB.out | apply below_alloc | apply pw_below_drewN | apply below_drew1 | refine below_set ?_ GE273.out | refine below_set ?_ GE274.out | refine below_set ?_ GE281.out) | exact HB.out)) (below_size (by repeat (first | (with_reducible first | exact HB.out | apply below_alloc | apply pw_below_drewN | apply below_drew1 | refine below_set ?_ GE273.out | refine below_set ?_ GE274.out | refine below_set ?_ GE281.out) | exact HB.out))) ?_; (case hA => exact KA66.out); (case hd => exact KY66.out); (case hl => have a_ := KL66.out; have b_ := (Kd.R_reads' HO_282000.out).1; omega); (case hS => repeat (first | exact (Kd.C_below HR3.out (by repeat (first | (with_reducible first | exact HB.out | apply below_alloc | apply pw_below_drewN | apply below_drew1 | refine below_set ?_ GE273.out | refine below_set ?_ GE274.out | refine below_set ?_ GE281.out) | exact HB.out))) | (with_reducible refine Kd.C_alloc ?_ _) | (with_reducible refine Kd.C_drewN ?_ _) | (with_reducible refine Kd.C_drew ?_))); intro w67 ho hb hg; rw [← Ny291.out] at ho; have n0_ := Aside0.mk (ho); have n1_ := Aside0.mk (blk_grown (g := gb273) (o := .cells #[.slice A0_0 l0_0.length c0_0, .int .i64 a0_1, .int .i64 a0_2, .int .i64 a0_3] 27 (0, 0)) (by (with_reducible repeat (first | refine blk_drewN ?_ _ | refine blk_drew ?_ | refine blk_alloc ?_ _)); exact BK273.out) hg (Kd.R_ne HO_282000.out BK273.out (by decide))); have n2_ := Aside0.mk (blk_grown (g := gb274) (o := .cells #[.slice none 0 0, .int .i64 0, .int .i64 0, .int .i64 0] 27 (0, 0)) (by (with_reducible repeat (first | refine blk_drewN ?_ _ | refine blk_drew ?_ | refine blk_alloc ?_ _)); exact BK274.out) hg (Kd.R_ne HO_282000.out BK274.out (by decide))); have n3_ := Aside0.mk (blk_grown (g := gb281) (o := .cells #[.slice (some ⟨go52, 0, none⟩) t275.length co13, .int .i64 t278, .int .i64 t279, .int .i64 t280] 27 (0, 0)) (by (with_reducible repeat (first | refine blk_drewN ?_ _ | refine blk_drew ?_ | refine blk_alloc ?_ _)); exact BK281.out) hg (Kd.R_ne HO_282000.out BK281.out (by decide))); have n4_ := Aside0.mk (hb); clear HO_282000; clear BK273; clear BK274; clear BK281; clear HB; have HO_282000 := n0_; have BK273 := n1_; have BK274 := n2_; have BK281 := n3_; have HB := n4_; clear n0_ n1_ n2_ n3_ n4_; clear ho hb hg; have hcz69_0 : w67.cell? ⟨gb281, 0, none⟩ = some (.slice (some ⟨go52, 0, none⟩) t275.length co13) := (blk_cell BK281.out 0).trans rfl; have hcz69_1 : w67.cell? ⟨gb281, 1, none⟩ = some (.int .i64 t278) := (blk_cell BK281.out 1).trans rfl; have hcz69_2 : w67.cell? ⟨gb281, 2, none⟩ = some (.int .i64 t279) := (blk_cell BK281.out 2).trans rfl; have hcz69_3 : w67.cell? ⟨gb281, 3, none⟩ = some (.int .i64 t280) := (blk_cell BK281.out 3).trans rfl; have hfz69_0 := blk_frozen BK281.out 0; have hfz69_1 := blk_frozen BK281.out 1; have hfz69_2 := blk_frozen BK281.out 2; have hfz69_3 := blk_frozen BK281.out 3) | ((with_reducible refine gate_callee (f := 37) rfl ?_); refine goesL_ (some 69) rfl rfl Try.func37 (by kernel_rfl) rfl #[.agg #[.slice (some ⟨go52, 0, none⟩) y291.length co13, .int .i64 t278, .int .i64 t279, .int .i64 (wrap64 (t280 + (wrap64 (1 + (l3.length : Int)))))]] rfl (by (try simp only [List.map_toArray, List.map_cons, List.map_nil]); first | done | (rw [show y291.length = t275.length from (Kd.R_reads' HO_282000.out).1.symm] <;> rfl) | rfl | (simp only [List.length_drop, List.length_take]; rfl)) ?_; (with_reducible refine (impl_HeapOk.calls kj46 _ _ y291 t278 t279 (wrap64 (t280 + (wrap64 (1 + (l3.length : Int))))) true _ ?side1 ?side2 A56.out).mono ?_); (case side1 => refine (Kd.R_reads' (e := 3) (base := w.heap.size) (ok := fun k_ => True) (n := t275.length) (c := co13) ?_).2.2; exact (by (with_reducible repeat (first | apply Kd.R_alloc | apply Kd.R_drewN | apply Kd.R_drew)); exact (Kd.R_mono (Kd.R_far (p := ⟨gb281, 3, none⟩) (Kd.R_types HO_282000.out BK281.out (by decide)) (fun _ hk => hk.2) (.int .i64 (wrap64 (t280 + (wrap64 (1 + (l3.length : Int))))))) (fun _ h_ => h_.1)))); (case side2 => rw [show y291.length = t275.length from (Kd.R_reads' HO_282000.out).1.symm]; exact (Kd.R_reads' HO_282000.out).2.1); rintro e w70 ⟨rfl, hb⟩; refine ⟨_, rfl, ?_⟩; have n0_ := Aside0.mk (Kd.R_below (by (with_reducible repeat (first | apply Kd.R_alloc | apply Kd.R_drewN | apply Kd.R_drew)); exact (Kd.R_mono (Kd.R_far (p := ⟨gb281, 3, none⟩) (Kd.R_types HO_282000.out BK281.out (by decide)) (fun _ hk => hk.2) (.int .i64 (wrap64 (t280 + (wrap64 (1 + (l3.length : Int))))))) (fun _ h_ => h_.1))) hb); have n1_ := Aside0.mk (blk_below (g := gb273) (o := .cells #[.slice A0_0 l0_0.length c0_0, .int .i64 a0_1, .int .i64 a0_2, .int .i64 a0_3] 27 (0, 0)) (by (with_reducible repeat (first | refine blk_drewN ?_ _ | refine blk_drew ?_ | refine blk_alloc ?_ _)); refine blk_far ?_ NB273_281.out _; (with_reducible repeat (first | refine blk_drewN ?_ _ | refine blk_drew ?_ | refine blk_alloc ?_ _)); exact BK273.out) hb); have n2_ := Aside0.mk (blk_below (g := gb274) (o := .cells #[.slice none 0 0, .int .i64 0, .int .i64 0, .int .i64 0] 27 (0, 0)) (by (with_reducible repeat (first | refine blk_drewN ?_ _ | refine blk_drew ?_ | refine blk_alloc ?_ _)); refine blk_far ?_ NB274_281.out _; (with_reducible repeat (first | refine blk_drewN ?_ _ | refine blk_drew ?_ | refine blk_alloc ?_ _)); exact BK274.out) hb); have n3_ := Aside0.mk (blk_below (g := gb281) (o := .cells #[.slice (some ⟨go52, 0, none⟩) t275.length co13, .int .i64 t278, .int .i64 t279, .int .i64 (wrap64 (t280 + (wrap64 (1 + (l3.length : Int)))))] 27 (0, 0)) (by (with_reducible repeat (first | refine blk_drewN ?_ _ | refine blk_drew ?_ | refine blk_alloc ?_ _)); refine blk_put (cs := #[.slice (some ⟨go52, 0, none⟩) t275.length co13, .int .i64 t278, .int .i64 t279, .int .i64 t280]) ?_ 3 _ rfl; (with_reducible repeat (first | refine blk_drewN ?_ _ | refine blk_drew ?_ | refine blk_alloc ?_ _)); exact BK281.out) hb); have n4_ := Aside0.mk (below_step (by repeat (first | (with_reducible first | exact HB.out | apply below_alloc | apply pw_below_drewN | apply below_drew1 | refine below_set ?_ GE273.out | refine below_set ?_ GE274.out | refine below_set ?_ GE281.out) | exact HB.out)) hb); clear HO_282000; clear BK273; clear BK274; clear BK281; clear HB; have HO_282000 := n0_; have BK273 := n1_; have BK274 := n2_; have BK281 := n3_; have HB := n4_; clear n0_ n1_ n2_ n3_ n4_; (try clear hb); (try clear hb2); (try clear hk); (try clear hi)))
                      have n0_ := Aside0.mk (Kd.R_drew HO_282000.out)
                      have n1_ := Aside0.mk (blk_drew BK273.out)
                      have n2_ := Aside0.mk (blk_drew BK274.out)
                      have n3_ := Aside0.mk (blk_drew BK281.out)
                      have n4_ := Aside0.mk (below_drew1 HB.out)
                      clear HO_282000
                      clear BK273
                      clear BK274
                      clear BK281
                      clear HB
                      have HO_282000 := n0_
                      have BK273 := n1_
                      have BK274 := n2_
                      have BK281 := n3_
                      have HB := n4_
                      clear n0_ n1_ n2_ n3_ n4_
                      refine start_ (n := 6) (S := fun w' => w'.cell? ⟨gb281, 0, none⟩ = some (.slice (some ⟨go52, 0, none⟩) t275.length co13) ∧ w'.cell? ⟨gb281, 1, none⟩ = some (.int .i64 t278) ∧ w'.cell? ⟨gb281, 2, none⟩ = some (.int .i64 t279) ∧ w'.cell? ⟨gb281, 3, none⟩ = some (.int .i64 (wrap64 (t280 + (wrap64 (1 + (l3.length : Int)))))) ∧ w'.cell? ⟨gb273, 0, none⟩ = some (.slice A0_0 l0_0.length c0_0) ∧ w'.cell? ⟨gb273, 1, none⟩ = some (.int .i64 a0_1) ∧ w'.cell? ⟨gb273, 2, none⟩ = some (.int .i64 a0_2) ∧ w'.cell? ⟨gb273, 3, none⟩ = some (.int .i64 a0_3)) (ds := []) #[false, false, false, false, false, false] (by kernel_rfl) rfl rfl ⟨(blk_cell BK281.out 0).trans rfl, (blk_cell BK281.out 1).trans rfl, (blk_cell BK281.out 2).trans rfl, (blk_cell BK281.out 3).trans rfl, (blk_cell BK273.out 0).trans rfl, (blk_cell BK273.out 1).trans rfl, (blk_cell BK273.out 2).trans rfl, (blk_cell BK273.out 3).trans rfl⟩ (fun hHeld => ?_)
                      generalize w70.drew = w71 at HO_282000 BK273 BK274 BK281 HB hHeld ⊢
                      refine pure_ (i := 1) (N := some 74) (v := ?_) (a' := ?_) #[false, true, false, false, false, false] rfl rfl (by kernel_rfl) (fun _ _ _ h => h) (Or.inl ⟨by rfl, ?_⟩) ?_ ?_
                      rotate_left
                      · intro w'
                        go_simp
                        with_reducible rfl
                      rotate_left
                      · simp only [Act.put, List.setIfInBounds_toArray, List.set_cons_zero, List.set_cons_succ, i64_w, i32_w]
                        rfl
                      refine take_ (i := 0) (N := some 73) (v := ?_) (a' := ?_) #[true, true, false, false, false, false] rfl rfl (by kernel_rfl) (fun _ _ _ h => h) (Or.inl ⟨by rfl, ?_⟩) hHeld ?_ ?_
                      rotate_left
                      · rintro w' ⟨s0, s1, s2, s3, s4, s5, s6, s7⟩
                        go_simp
                        with_reducible rfl
                      rotate_left
                      · simp only [Act.put, List.setIfInBounds_toArray, List.set_cons_zero, List.set_cons_succ, i64_w, i32_w]
                        rfl
                      refine take_ (i := 2) (N := some 75) (v := ?_) (a' := ?_) #[true, true, true, false, false, false] rfl rfl (by kernel_rfl) (fun _ _ _ h => h) (Or.inl ⟨by rfl, ?_⟩) hHeld ?_ ?_
                      rotate_left
                      · rintro w' ⟨s0, s1, s2, s3, s4, s5, s6, s7⟩
                        go_simp
                        with_reducible rfl
                      rotate_left
                      · simp only [Act.put, List.setIfInBounds_toArray, List.set_cons_zero, List.set_cons_succ, i64_w, i32_w]
                        rfl
                      refine one_ (i := 3) (N := none) #[true, true, true, true, false, false] rfl rfl (by kernel_rfl) (by decide) (fun K hK => ?_)
                      have hs72 : w71.cell? ⟨gb274, 0, none⟩ = some (.slice none 0 0) := (blk_cell BK274.out 0).trans rfl
                      have hfs72 := blk_frozen BK274.out 0
                      have hns72_0 := NB273_274.out
                      have hns72_2 := NB281_274.out
                      have hms72_0 := NB274_273.out
                      have hms72_2 := NB274_281.out
                      have hs73 : w71.cell? ⟨gb274, 1, none⟩ = some (.int .i64 0) := (blk_cell BK274.out 1).trans rfl
                      have hfs73 := blk_frozen BK274.out 1
                      have hns73_0 := NB273_274.out
                      have hns73_2 := NB281_274.out
                      have hms73_0 := NB274_273.out
                      have hms73_2 := NB274_281.out
                      have hs74 : w71.cell? ⟨gb274, 2, none⟩ = some (.int .i64 0) := (blk_cell BK274.out 2).trans rfl
                      have hfs74 := blk_frozen BK274.out 2
                      have hns74_0 := NB273_274.out
                      have hns74_2 := NB281_274.out
                      have hms74_0 := NB274_273.out
                      have hms74_2 := NB274_281.out
                      have hs75 : w71.cell? ⟨gb274, 3, none⟩ = some (.int .i64 0) := (blk_cell BK274.out 3).trans rfl
                      have hfs75 := blk_frozen BK274.out 3
                      have hns75_0 := NB273_274.out
                      have hns75_2 := NB281_274.out
                      have hms75_0 := NB274_273.out
                      have hms75_2 := NB274_281.out
                      refine skip_ (w1 := ?_) (by rfl) rfl ?_ ?_
                      rotate_left
                      · go_simp
                        rfl
                      refine hK.out _ _ ⟨((cell_far (p := ⟨gb274, _, none⟩) NB281_274.out _).trans (((cell_far (p := ⟨gb274, _, none⟩) NB281_274.out _).trans (((cell_far (p := ⟨gb274, _, none⟩) NB281_274.out _).trans (((cell_far (p := ⟨gb274, _, none⟩) NB281_274.out _).trans (hHeld.1)))))))), ((cell_far (p := ⟨gb274, _, none⟩) NB281_274.out _).trans (((cell_far (p := ⟨gb274, _, none⟩) NB281_274.out _).trans (((cell_far (p := ⟨gb274, _, none⟩) NB281_274.out _).trans (((cell_far (p := ⟨gb274, _, none⟩) NB281_274.out _).trans (hHeld.2.1)))))))), ((cell_far (p := ⟨gb274, _, none⟩) NB281_274.out _).trans (((cell_far (p := ⟨gb274, _, none⟩) NB281_274.out _).trans (((cell_far (p := ⟨gb274, _, none⟩) NB281_274.out _).trans (((cell_far (p := ⟨gb274, _, none⟩) NB281_274.out _).trans (hHeld.2.2.1)))))))), ((cell_far (p := ⟨gb274, _, none⟩) NB281_274.out _).trans (((cell_far (p := ⟨gb274, _, none⟩) NB281_274.out _).trans (((cell_far (p := ⟨gb274, _, none⟩) NB281_274.out _).trans (((cell_far (p := ⟨gb274, _, none⟩) NB281_274.out _).trans (hHeld.2.2.2.1)))))))), ((cell_far (p := ⟨gb274, _, none⟩) NB273_274.out _).trans (((cell_far (p := ⟨gb274, _, none⟩) NB273_274.out _).trans (((cell_far (p := ⟨gb274, _, none⟩) NB273_274.out _).trans (((cell_far (p := ⟨gb274, _, none⟩) NB273_274.out _).trans (hHeld.2.2.2.2.1)))))))), ((cell_far (p := ⟨gb274, _, none⟩) NB273_274.out _).trans (((cell_far (p := ⟨gb274, _, none⟩) NB273_274.out _).trans (((cell_far (p := ⟨gb274, _, none⟩) NB273_274.out _).trans (((cell_far (p := ⟨gb274, _, none⟩) NB273_274.out _).trans (hHeld.2.2.2.2.2.1)))))))), ((cell_far (p := ⟨gb274, _, none⟩) NB273_274.out _).trans (((cell_far (p := ⟨gb274, _, none⟩) NB273_274.out _).trans (((cell_far (p := ⟨gb274, _, none⟩) NB273_274.out _).trans (((cell_far (p := ⟨gb274, _, none⟩) NB273_274.out _).trans (hHeld.2.2.2.2.2.2.1)))))))), ((cell_far (p := ⟨gb274, _, none⟩) NB273_274.out _).trans (((cell_far (p := ⟨gb274, _, none⟩) NB273_274.out _).trans (((cell_far (p := ⟨gb274, _, none⟩) NB273_274.out _).trans (((cell_far (p := ⟨gb274, _, none⟩) NB273_274.out _).trans (hHeld.2.2.2.2.2.2.2))))))))⟩ (fun hHeld => ?_)
                      clear hK K
                      refine pure_ (i := 4) (N := some 9) (v := ?_) (a' := ?_) #[true, true, true, true, true, false] rfl rfl (by kernel_rfl) (fun _ _ _ h => h) (Or.inl ⟨by rfl, ?_⟩) ?_ ?_
                      rotate_left
                      · intro w'
                        go_simp
                        with_reducible rfl
                      rotate_left
                      · simp only [Act.put, List.setIfInBounds_toArray, List.set_cons_zero, List.set_cons_succ, i64_w, i32_w]
                        rfl
                      refine pure_ (i := 5) (N := some 10) (v := ?_) (a' := ?_) #[true, true, true, true, true, true] rfl rfl (by kernel_rfl) (fun _ _ _ h => h) (Or.inl ⟨by rfl, ?_⟩) ?_ ?_
                      rotate_left
                      · intro w'
                        go_simp
                        with_reducible rfl
                      rotate_left
                      · simp only [Act.put, List.setIfInBounds_toArray, List.set_cons_zero, List.set_cons_succ, i64_w, i32_w]
                        rfl
                      refine done_ (by kernel_rfl) ?_
                      try go_wp2
                      refine bodyPost_ret (results_ctt rfl _ _ gb274 27 #[.slice (some ⟨go52, 0, none⟩) t275.length co13, .int .i64 t278, .int .i64 t279, .int .i64 (wrap64 (t280 + (wrap64 (1 + (l3.length : Int)))))] (0, 0) _ rfl (by (with_reducible repeat (first | refine blk_drewN ?_ _ | refine blk_drew ?_ | refine blk_alloc ?_ _)); refine blk_put (cs := #[.slice (some ⟨go52, 0, none⟩) t275.length co13, .int .i64 t278, .int .i64 t279, .int .i64 0]) ?_ 3 _ rfl; (with_reducible repeat (first | refine blk_drewN ?_ _ | refine blk_drew ?_ | refine blk_alloc ?_ _)); refine blk_put (cs := #[.slice (some ⟨go52, 0, none⟩) t275.length co13, .int .i64 t278, .int .i64 0, .int .i64 0]) ?_ 2 _ rfl; (with_reducible repeat (first | refine blk_drewN ?_ _ | refine blk_drew ?_ | refine blk_alloc ?_ _)); refine blk_put (cs := #[.slice (some ⟨go52, 0, none⟩) t275.length co13, .int .i64 0, .int .i64 0, .int .i64 0]) ?_ 1 _ rfl; (with_reducible repeat (first | refine blk_drewN ?_ _ | refine blk_drew ?_ | refine blk_alloc ?_ _)); refine blk_put (cs := #[.slice none 0 0, .int .i64 0, .int .i64 0, .int .i64 0]) ?_ 0 _ rfl; (with_reducible repeat (first | refine blk_drewN ?_ _ | refine blk_drew ?_ | refine blk_alloc ?_ _)); exact BK274.out) Try.underlying27 rfl (by kernel_rfl)) rfl ?_
                      exact ⟨_, by first | rfl | (simp [errW_none, errW_some] <;> rfl) | (simp only [← hji53]; first | rfl | (simp [errW_none, errW_some] <;> rfl)) | (simp [*, errW_none, errW_some] <;> rfl), by (with_reducible repeat (first | apply Kd.R_alloc | apply Kd.R_drewN | apply Kd.R_drew)); exact Kd.R_mono (Kd.R_far (p := ⟨gb274, 3, none⟩) (Kd.R_far (p := ⟨gb274, 2, none⟩) (Kd.R_far (p := ⟨gb274, 1, none⟩) (Kd.R_far (p := ⟨gb274, 0, none⟩) (Kd.R_types HO_282000.out BK274.out (by decide)) (fun _ hk => hk.2) (.slice (some ⟨go52, 0, none⟩) t275.length co13)) (fun _ hk => hk.2) (.int .i64 t278)) (fun _ hk => hk.2) (.int .i64 t279)) (fun _ hk => hk.2) (.int .i64 (wrap64 (t280 + (wrap64 (1 + (l3.length : Int))))))) (fun _ hk => trivial), by repeat (first | (with_reducible first | exact HB.out | apply below_alloc | apply pw_below_drewN | apply below_drew1 | refine below_set ?_ GE273.out | refine below_set ?_ GE274.out | refine below_set ?_ GE281.out) | exact HB.out)⟩
                    · replace c57 := Bool.eq_false_iff.mpr c57
                      subst c57
                      have H1 : ((impl_copyHeap.f l0_0 a0_1 a0_2 a0_3).bind fun bt293 => (some (bt293.1, bt293.2.1, bt293.2.2.1, bt293.2.2.2, 0, false))) = some (r1, r2, r3, r4, r5, r6) := by rw [if_neg (show ¬ (false = true) by decide)] at H; exact H
                      clear H
                      have H := H1
                      clear H1
                      replace H := Option.bind_eq_some_iff.mp H
                      obtain ⟨⟨t293, t296, t297, t298⟩, A760, H⟩ := H
                      replace H : (some (t293, t296, t297, t298, 0, false)) = some (r1, r2, r3, r4, r5, r6) := H
                      have A76 := Aside0.mk A760
                      clear A760
                      simp only [Option.some.injEq, Prod.mk.injEq] at H
                      obtain ⟨rfl, rfl, rfl, rfl, rfl, rfl⟩ := H
                      try go_wp2
                      have n0_ := Aside0.mk (Kd.R_drew HO_282000.out)
                      have n1_ := Aside0.mk (blk_drew BK273.out)
                      have n2_ := Aside0.mk (blk_drew BK274.out)
                      have n3_ := Aside0.mk (blk_drew BK281.out)
                      have n4_ := Aside0.mk (below_drew1 HB.out)
                      clear HO_282000
                      clear BK273
                      clear BK274
                      clear BK281
                      clear HB
                      have HO_282000 := n0_
                      have BK273 := n1_
                      have BK274 := n2_
                      have BK281 := n3_
                      have HB := n4_
                      clear n0_ n1_ n2_ n3_ n4_
                      refine start_ (n := 8) (S := fun w' => w'.cell? ⟨gb281, 0, none⟩ = some (.slice Ao13 t275.length co13) ∧ w'.cell? ⟨gb281, 1, none⟩ = some (.int .i64 t278) ∧ w'.cell? ⟨gb281, 2, none⟩ = some (.int .i64 t279) ∧ w'.cell? ⟨gb281, 3, none⟩ = some (.int .i64 t280) ∧ w'.cell? ⟨gb273, 0, none⟩ = some (.slice A0_0 l0_0.length c0_0) ∧ w'.cell? ⟨gb273, 1, none⟩ = some (.int .i64 a0_1) ∧ w'.cell? ⟨gb273, 2, none⟩ = some (.int .i64 a0_2) ∧ w'.cell? ⟨gb273, 3, none⟩ = some (.int .i64 a0_3)) (ds := [7]) #[false, false, false, false, false, false, false, false] (by kernel_rfl) rfl rfl ⟨(blk_cell BK281.out 0).trans rfl, (blk_cell BK281.out 1).trans rfl, (blk_cell BK281.out 2).trans rfl, (blk_cell BK281.out 3).trans rfl, (blk_cell BK273.out 0).trans rfl, (blk_cell BK273.out 1).trans rfl, (blk_cell BK273.out 2).trans rfl, (blk_cell BK273.out 3).trans rfl⟩ (fun hHeld => ?_); refine with_tabW impl_Alloc.tab7 impl_Alloc.bits7 (fun HT_ HW_ => ?_)
                      generalize wc.drew = w77 at HO_282000 BK273 BK274 BK281 HB hHeld ⊢
                      refine pure_ (i := 0) (N := some 46) (v := ?_) (a' := ?_) #[true, false, false, false, false, false, false, false] rfl rfl (any_of HT_.out (by kernel_rfl)) (fun _ _ _ h => h) (Or.inl ⟨by rfl, ?_⟩) ?_ ?_
                      rotate_left
                      · intro w'
                        go_simp
                        with_reducible rfl
                      rotate_left
                      · simp only [Act.put, List.setIfInBounds_toArray, List.set_cons_zero, List.set_cons_succ, i64_w, i32_w]
                        rfl
                      refine pure_ (i := 2) (N := some 48) (v := ?_) (a' := ?_) #[true, false, true, false, false, false, false, false] rfl rfl (any_of HT_.out (by kernel_rfl)) (fun _ _ _ h => h) (Or.inl ⟨by rfl, ?_⟩) ?_ ?_
                      rotate_left
                      · intro w'
                        go_simp
                        with_reducible rfl
                      rotate_left
                      · simp only [Act.put, List.setIfInBounds_toArray, List.set_cons_zero, List.set_cons_succ, i64_w, i32_w]
                        rfl
                      refine pure_ (i := 4) (N := some 50) (v := ?_) (a' := ?_) #[true, false, true, false, true, false, false, false] rfl rfl (any_of HT_.out (by kernel_rfl)) (fun _ _ _ h => h) (Or.inl ⟨by rfl, ?_⟩) ?_ ?_
                      rotate_left
                      · intro w'
                        go_simp
                        with_reducible rfl
                      rotate_left
                      · simp only [Act.put, List.setIfInBounds_toArray, List.set_cons_zero, List.set_cons_succ, i64_w, i32_w]
                        rfl
                      refine take_ (i := 1) (N := some 47) (v := ?_) (a' := ?_) #[true, true, true, false, true, false, false, false] rfl rfl (take_ofW HT_.out HW_.out (by kernel_rfl)) (fun _ _ _ h => h) (Or.inl ⟨by rfl, ?_⟩) hHeld ?_ ?_
                      rotate_left
                      · rintro w' ⟨s0, s1, s2, s3, s4, s5, s6, s7⟩
                        go_simp
                        with_reducible rfl
                      rotate_left
                      · simp only [Act.put, List.setIfInBounds_toArray, List.set_cons_zero, List.set_cons_succ, i64_w, i32_w]
                        rfl
                      refine take_ (i := 3) (N := some 49) (v := ?_) (a' := ?_) #[true, true, true, true, true, false, false, false] rfl rfl (take_ofW HT_.out HW_.out (by kernel_rfl)) (fun _ _ _ h => h) (Or.inl ⟨by rfl, ?_⟩) hHeld ?_ ?_
                      rotate_left
                      · rintro w' ⟨s0, s1, s2, s3, s4, s5, s6, s7⟩
                        go_simp
                        with_reducible rfl
                      rotate_left
                      · simp only [Act.put, List.setIfInBounds_toArray, List.set_cons_zero, List.set_cons_succ, i64_w, i32_w]
                        rfl
                      refine one_ (i := 5) (N := some 51) #[true, true, true, true, true, true, false, false] rfl rfl (one_of HT_.out (by kernel_rfl)) (by decide) (fun K hK => ?_)
                      refine goes_ Try.func65 (by kernel_rfl) rfl #[.int .i64 x12_46] (by rfl) rfl rfl (by (try simp only [List.map_toArray, List.map_cons, List.map_nil]); first | done | rfl | (simp only [List.length_drop, List.length_take]; rfl)) ?_
                      with_reducible refine (impl_IntWord.calls x12_46 t285 _ A49.out).mono ?_
                      rintro e w' ⟨rfl, ⟨nd, rfl⟩⟩
                      refine ⟨_, rfl, ?_⟩
                      have p52 : 0 ≤ (a0_3 : Int) := of_decide_eq_true (by first | (with_reducible assumption) | assumption)
                      have q52 : (a0_3 : Int) < ((t275.length : Int) : Int) := of_decide_eq_true (by first | (with_reducible assumption) | assumption)
                      obtain ⟨go52, co52, eo52, gb52, gl52, cl52, HG52⟩ := Kd.R_form HO_282000.out (by omega)
                      (first | cases eo52 | (injection eo52 with ea_ en_ ec_; (first | subst ea_ | (injection ea_ with ea_; subst ea_)); subst ec_; clear en_))
                      have GB52 := Aside0.mk gb52
                      have GG52 := Aside0.mk HG52
                      clear gb52 gl52 HG52
                      obtain ⟨hx52_0, hf52_0⟩ := Kd.R_celln 0 HO_282000.out (a0_3 : Int) p52 q52
                      replace p52 := eq_true p52
                      replace q52 := eq_true q52
                      have HP78 := Kd.R_putn (Kd.R_drewN (HO_282000.out) nd) (a0_3 : Int) t285
                      rw [← Ny286.out] at HP78
                      have HQ78 := Aside0.mk HP78
                      clear HP78
                      refine hK.out _ _ ⟨(blk_cell BK281.out 0).trans rfl, (blk_cell BK281.out 1).trans rfl, (blk_cell BK281.out 2).trans rfl, (blk_cell BK281.out 3).trans rfl, (blk_cell BK273.out 0).trans rfl, (blk_cell BK273.out 1).trans rfl, (blk_cell BK273.out 2).trans rfl, (blk_cell BK273.out 3).trans rfl⟩ (fun hHeld => ?_)
                      clear hK K
                      refine norm_ (a' := ?_) ?_ ?_
                      rotate_left
                      · show Act.put _ (some 51) _ = _
                        simp only [Act.put, List.setIfInBounds_toArray, List.set_cons_zero, List.set_cons_succ, i64_w, i32_w]
                        rfl
                      refine pure_ (i := 6) (N := some 52) (v := ?_) (a' := ?_) #[true, true, true, true, true, true, true, false] rfl rfl (any_of HT_.out (by kernel_rfl)) (fun _ _ _ h => h) (Or.inl ⟨by rfl, ?_⟩) ?_ ?_
                      rotate_left
                      · intro w'
                        go_simp
                        with_reducible rfl
                      rotate_left
                      · simp only [Act.put, List.setIfInBounds_toArray, List.set_cons_zero, List.set_cons_succ, i64_w, i32_w]
                        rfl
                      refine last_ (i := 7) (N := none) #[true, true, true, true, true, true, true, true] rfl rfl (one_of HT_.out (by kernel_rfl)) (by decide) (fun K hK => ?_)
                      refine skip_ (w1 := ?_) (by rfl) rfl ?_ ?_
                      rotate_left
                      · go_simp
                        rfl
                      refine hK.out _ _ ?_
                      clear hK K
                      refine done_ (done_of HT_.out (by kernel_rfl)) ?_
                      have n0_ : Aside0 (Kd.R (Kd.int .i64) 3 ((w77.drewN nd).setCell ⟨go52, (a0_3 : Int).toNat, none⟩ (.int .i64 t285)) w.heap.size (fun _ => True) (.slice (some ⟨go52, 0, none⟩) t275.length co13) y286) := ⟨by (with_reducible repeat (first | apply Kd.R_alloc | apply Kd.R_drewN | apply Kd.R_drew)); exact HQ78.out⟩
                      have n1_ : Aside0 (((w77.drewN nd).setCell ⟨go52, (a0_3 : Int).toNat, none⟩ (.int .i64 t285)).heap[gb273]? = some (.cells #[.slice A0_0 l0_0.length c0_0, .int .i64 a0_1, .int .i64 a0_2, .int .i64 a0_3] 27 (0, 0))) := ⟨by (with_reducible repeat (first | refine blk_drewN ?_ _ | refine blk_drew ?_ | refine blk_alloc ?_ _)); refine blk_far ?_ (by have h_ := Kd.R_ne HO_282000.out BK273.out (by decide); intro e_; exact h_ (by rw [e_]; rfl)) _; (with_reducible repeat (first | refine blk_drewN ?_ _ | refine blk_drew ?_ | refine blk_alloc ?_ _)); exact BK273.out⟩
                      have n2_ : Aside0 (((w77.drewN nd).setCell ⟨go52, (a0_3 : Int).toNat, none⟩ (.int .i64 t285)).heap[gb274]? = some (.cells #[.slice none 0 0, .int .i64 0, .int .i64 0, .int .i64 0] 27 (0, 0))) := ⟨by (with_reducible repeat (first | refine blk_drewN ?_ _ | refine blk_drew ?_ | refine blk_alloc ?_ _)); refine blk_far ?_ (by have h_ := Kd.R_ne HO_282000.out BK274.out (by decide); intro e_; exact h_ (by rw [e_]; rfl)) _; (with_reducible repeat (first | refine blk_drewN ?_ _ | refine blk_drew ?_ | refine blk_alloc ?_ _)); exact BK274.out⟩
                      have n3_ : Aside0 (((w77.drewN nd).setCell ⟨go52, (a0_3 : Int).toNat, none⟩ (.int .i64 t285)).heap[gb281]? = some (.cells #[.slice (some ⟨go52, 0, none⟩) t275.length co13, .int .i64 t278, .int .i64 t279, .int .i64 t280] 27 (0, 0))) := ⟨by (with_reducible repeat (first | refine blk_drewN ?_ _ | refine blk_drew ?_ | refine blk_alloc ?_ _)); refine blk_far ?_ (by have h_ := Kd.R_ne HO_282000.out BK281.out (by decide); intro e_; exact h_ (by rw [e_]; rfl)) _; (with_reducible repeat (first | refine blk_drewN ?_ _ | refine blk_drew ?_ | refine blk_alloc ?_ _)); exact BK281.out⟩
                      have n4_ : Aside0 (Below w.heap.size w ((w77.drewN nd).setCell ⟨go52, (a0_3 : Int).toNat, none⟩ (.int .i64 t285))) := ⟨by repeat (first | (with_reducible first | exact HB.out | apply below_alloc | apply pw_below_drewN | apply below_drew1 | refine below_set ?_ GB52.out | refine below_set ?_ GE273.out | refine below_set ?_ GE274.out | refine below_set ?_ GE281.out) | exact HB.out)⟩
                      (try clear HO_282000)
                      (try clear BK273)
                      (try clear BK274)
                      (try clear BK281)
                      (try clear HB)
                      generalize ((w77.drewN nd).setCell ⟨go52, (a0_3 : Int).toNat, none⟩ (.int .i64 t285)) = w79 at n0_ n1_ n2_ n3_ n4_ ⊢
                      have HO_282000 := n0_
                      have BK273 := n1_
                      have BK274 := n2_
                      have BK281 := n3_
                      have HB := n4_
                      clear n0_ n1_ n2_ n3_ n4_
                      have hnb80 := NB281_273.out
                      have hnc80 := NB273_281.out
                      have hnb81 := NB281_274.out
                      have hnc81 := NB274_281.out
                      have hcz82_0 : w79.cell? ⟨gb281, 0, none⟩ = some (.slice (some ⟨go52, 0, none⟩) t275.length co13) := (blk_cell BK281.out 0).trans rfl
                      have hcz82_1 : w79.cell? ⟨gb281, 1, none⟩ = some (.int .i64 t278) := (blk_cell BK281.out 1).trans rfl
                      have hcz82_2 : w79.cell? ⟨gb281, 2, none⟩ = some (.int .i64 t279) := (blk_cell BK281.out 2).trans rfl
                      have hcz82_3 : w79.cell? ⟨gb281, 3, none⟩ = some (.int .i64 t280) := (blk_cell BK281.out 3).trans rfl
                      have hfz82_0 := blk_frozen BK281.out 0
                      have hfz82_1 := blk_frozen BK281.out 1
                      have hfz82_2 := blk_frozen BK281.out 2
                      have hfz82_3 := blk_frozen BK281.out 3
                      have hnb83 := NB273_274.out
                      have hnc83 := NB274_273.out
                      have hcz84_0 : w79.cell? ⟨gb273, 0, none⟩ = some (.slice A0_0 l0_0.length c0_0) := (blk_cell BK273.out 0).trans rfl
                      have hcz84_1 : w79.cell? ⟨gb273, 1, none⟩ = some (.int .i64 a0_1) := (blk_cell BK273.out 1).trans rfl
                      have hcz84_2 : w79.cell? ⟨gb273, 2, none⟩ = some (.int .i64 a0_2) := (blk_cell BK273.out 2).trans rfl
                      have hcz84_3 : w79.cell? ⟨gb273, 3, none⟩ = some (.int .i64 a0_3) := (blk_cell BK273.out 3).trans rfl
                      have hfz84_0 := blk_frozen BK273.out 0
                      have hfz84_1 := blk_frozen BK273.out 1
                      have hfz84_2 := blk_frozen BK273.out 2
                      have hfz84_3 := blk_frozen BK273.out 3
                      have hlx85 := (Kd.R_reads' HO_282000.out).1
                      have q85 : ((ji53) : Int) ≤ ((t275.length : Int) : Int) := of_decide_eq_true (by first | (with_reducible assumption) | assumption)
                      obtain ⟨i085, hi085, _, hsz85, _⟩ := info_parts info3
                      have hroom85 : t275.length ≤ co13 := (Kd.R_reads' HO_282000.out).2.1
                      have hroomc85 : y286.length ≤ co13 := (by rw [← hlx85]; exact hroom85)
                      have hC85 : Kd.C (Kd.int .i64) _ (some ⟨go52, 0, none⟩) y286.length y286 := (Kd.R_reads' HO_282000.out).2.2
                      have q085 : (0 : Int) ≤ ((ji53) : Int) := of_decide_eq_true (by first | (with_reducible assumption) | assumption)
                      have hcut85 := cut_from (P := Try.prog) 22 3 .i64 Try.underlying22 hi085 1 hsz85 (some ⟨go52, 0, none⟩) t275.length co13 (ji53) q085 q85
                      have hr85 := Kd.C_drop (m := ((ji53) : Int).toNat) (c := co13) hC85 (by omega) hroomc85
                      obtain ⟨A85, hA85⟩ : ∃ A1, A1 = (if co13 = ((ji53) : Int).toNat then (some ⟨go52, 0, none⟩) else ((some ⟨go52, 0, none⟩) : Option Addr).map (·.add (((ji53) : Int).toNat * 1))) := ⟨_, rfl⟩
                      obtain ⟨c85, hc85⟩ : ∃ c1, c1 = co13 - ((ji53) : Int).toNat := ⟨_, rfl⟩
                      have hy85 : y287.length = t275.length - ((ji53) : Int).toNat := (by rw [Ny287.out, List.length_drop] <;> omega)
                      rw [show (y286).drop ((ji53) : Int).toNat = y287 from Ny287.out.symm] at hr85
                      replace hr85 : Kd.C (Kd.int .i64) _ A85 y287.length y287 := (by rw [hA85]; exact hr85)
                      rw [← hy85, ← hA85, ← hc85] at hcut85
                      have HR290 := Aside0.mk hr85
                      have HC290 := Aside0.mk (show y287.length ≤ c85 from by rw [hy85, hc85]; exact Nat.sub_le_sub_right hroom85 _)
                      clear hr85 hC85 hroom85 hi085 hsz85 hc85 hroomc85
                      have KY85 := Aside0.mk hy85
                      have KA85 := Aside0.mk hA85
                      clear hy85 hA85
                      have KE85 := Aside0.mk hlx85
                      have KL85 := Aside0.mk (show ((ji53) : Int).toNat ≤ y286.length from by omega)
                      clear hlx85
                      replace q85 := eq_true q85
                      try go_wp2_with (first | ((with_reducible refine gate_builtin (b := .copy) (xs := #[.tmp 58, .tmp 59]) rfl ?_); (try (refine gate_guard (by rfl) ?_; dsimp only)); refine Kd.R_copyto .i64 (w0 := w) w.heap.size rfl (.tmp 58) (.tmp 59) 22 22 3 rfl Try.underlying22 (by kernel_rfl) (g := go52) (n := t275.length) (c := co13) (lo := ((ji53) : Int).toNat) (A := A85) (dl := y287.length) (c1 := c85) (SA := A3) (m := l3.length) (sc := c3) (xs := y286) (ys := l3) rfl rfl ?hA ?hd (by (with_reducible repeat (first | apply Kd.R_alloc | apply Kd.R_drewN | apply Kd.R_drew)); exact HO_282000.out) ?hl ?hS (by repeat (first | (with_reducible first | exact HB.out | apply below_alloc | apply pw_below_drewN | apply below_drew1 | refine below_set ?_ GE273.out | refine below_set ?_ GE274.out | refine below_set ?_ GE281.out) | exact HB.out)) (below_size (by repeat (first | (with_reducible first | exact HB.out | apply below_alloc | apply pw_below_drewN | apply below_drew1 | refine below_set ?_ GE273.out | refine below_set ?_ GE274.out | refine below_set ?_ GE281.out) | exact HB.out))) ?_; (case hA => exact KA85.out); (case hd => exact KY85.out); (case hl => have a_ := KL85.out; have b_ := (Kd.R_reads' HO_282000.out).1; omega); (case hS => repeat (first | exact (Kd.C_below HR3.out (by repeat (first | (with_reducible first | exact HB.out | apply below_alloc | apply pw_below_drewN | apply below_drew1 | refine below_set ?_ GE273.out | refine below_set ?_ GE274.out | refine below_set ?_ GE281.out) | exact HB.out))) | (with_reducible refine Kd.C_alloc ?_ _) | (with_reducible refine Kd.C_drewN ?_ _) | (with_reducible refine Kd.C_drew ?_))); intro w86 ho hb hg; rw [← Ny291.out] at ho; have n0_ := Aside0.mk (ho); have n1_ := Aside0.mk (blk_grown (g := gb273) (o := .cells #[.slice A0_0 l0_0.length c0_0, .int .i64 a0_1, .int .i64 a0_2, .int .i64 a0_3] 27 (0, 0)) (by (with_reducible repeat (first | refine blk_drewN ?_ _ | refine blk_drew ?_ | refine blk_alloc ?_ _)); exact BK273.out) hg (Kd.R_ne HO_282000.out BK273.out (by decide))); have n2_ := Aside0.mk (blk_grown (g := gb274) (o := .cells #[.slice none 0 0, .int .i64 0, .int .i64 0, .int .i64 0] 27 (0, 0)) (by (with_reducible repeat (first | refine blk_drewN ?_ _ | refine blk_drew ?_ | refine blk_alloc ?_ _)); exact BK274.out) hg (Kd.R_ne HO_282000.out BK274.out (by decide))); have n3_ := Aside0.mk (blk_grown (g := gb281) (o := .cells #[.slice (some ⟨go52, 0, none⟩) t275.length co13, .int .i64 t278, .int .i64 t279, .int .i64 t280] 27 (0, 0)) (by (with_reducible repeat (first | refine blk_drewN ?_ _ | refine blk_drew ?_ | refine blk_alloc ?_ _)); exact BK281.out) hg (Kd.R_ne HO_282000.out BK281.out (by decide))); have n4_ := Aside0.mk (hb); clear HO_282000; clear BK273; clear BK274; clear BK281; clear HB; have HO_282000 := n0_; have BK273 := n1_; have BK274 := n2_; have BK281 := n3_; have HB := n4_; clear n0_ n1_ n2_ n3_ n4_; clear ho hb hg; have hcz88_0 : w86.cell? ⟨gb281, 0, none⟩ = some (.slice (some ⟨go52, 0, none⟩) t275.length co13) := (blk_cell BK281.out 0).trans rfl; have hcz88_1 : w86.cell? ⟨gb281, 1, none⟩ = some (.int .i64 t278) := (blk_cell BK281.out 1).trans rfl; have hcz88_2 : w86.cell? ⟨gb281, 2, none⟩ = some (.int .i64 t279) := (blk_cell BK281.out 2).trans rfl; have hcz88_3 : w86.cell? ⟨gb281, 3, none⟩ = some (.int .i64 t280) := (blk_cell BK281.out 3).trans rfl; have hfz88_0 := blk_frozen BK281.out 0; have hfz88_1 := blk_frozen BK281.out 1; have hfz88_2 := blk_frozen BK281.out 2; have hfz88_3 := blk_frozen BK281.out 3) | ((with_reducible refine gate_callee (f := 37) rfl ?_); refine goesL_ (some 69) rfl rfl Try.func37 (by kernel_rfl) rfl #[.agg #[.slice (some ⟨go52, 0, none⟩) y291.length co13, .int .i64 t278, .int .i64 t279, .int .i64 (wrap64 (t280 + (wrap64 (1 + (l3.length : Int)))))]] rfl (by (try simp only [List.map_toArray, List.map_cons, List.map_nil]); first | done | (rw [show y291.length = t275.length from (Kd.R_reads' HO_282000.out).1.symm] <;> rfl) | rfl | (simp only [List.length_drop, List.length_take]; rfl)) ?_; (with_reducible refine (impl_HeapOk.calls kj46 _ _ y291 t278 t279 (wrap64 (t280 + (wrap64 (1 + (l3.length : Int))))) false _ ?side1 ?side2 A56.out).mono ?_); (case side1 => refine (Kd.R_reads' (e := 3) (base := w.heap.size) (ok := fun k_ => True) (n := t275.length) (c := co13) ?_).2.2; exact (by (with_reducible repeat (first | apply Kd.R_alloc | apply Kd.R_drewN | apply Kd.R_drew)); exact (Kd.R_mono (Kd.R_far (p := ⟨gb281, 3, none⟩) (Kd.R_types HO_282000.out BK281.out (by decide)) (fun _ hk => hk.2) (.int .i64 (wrap64 (t280 + (wrap64 (1 + (l3.length : Int))))))) (fun _ h_ => h_.1)))); (case side2 => rw [show y291.length = t275.length from (Kd.R_reads' HO_282000.out).1.symm]; exact (Kd.R_reads' HO_282000.out).2.1); rintro e w89 ⟨rfl, hb⟩; refine ⟨_, rfl, ?_⟩; have n0_ := Aside0.mk (Kd.R_below (by (with_reducible repeat (first | apply Kd.R_alloc | apply Kd.R_drewN | apply Kd.R_drew)); exact (Kd.R_mono (Kd.R_far (p := ⟨gb281, 3, none⟩) (Kd.R_types HO_282000.out BK281.out (by decide)) (fun _ hk => hk.2) (.int .i64 (wrap64 (t280 + (wrap64 (1 + (l3.length : Int))))))) (fun _ h_ => h_.1))) hb); have n1_ := Aside0.mk (blk_below (g := gb273) (o := .cells #[.slice A0_0 l0_0.length c0_0, .int .i64 a0_1, .int .i64 a0_2, .int .i64 a0_3] 27 (0, 0)) (by (with_reducible repeat (first | refine blk_drewN ?_ _ | refine blk_drew ?_ | refine blk_alloc ?_ _)); refine blk_far ?_ NB273_281.out _; (with_reducible repeat (first | refine blk_drewN ?_ _ | refine blk_drew ?_ | refine blk_alloc ?_ _)); exact BK273.out) hb); have n2_ := Aside0.mk (blk_below (g := gb274) (o := .cells #[.slice none 0 0, .int .i64 0, .int .i64 0, .int .i64 0] 27 (0, 0)) (by (with_reducible repeat (first | refine blk_drewN ?_ _ | refine blk_drew ?_ | refine blk_alloc ?_ _)); refine blk_far ?_ NB274_281.out _; (with_reducible repeat (first | refine blk_drewN ?_ _ | refine blk_drew ?_ | refine blk_alloc ?_ _)); exact BK274.out) hb); have n3_ := Aside0.mk (blk_below (g := gb281) (o := .cells #[.slice (some ⟨go52, 0, none⟩) t275.length co13, .int .i64 t278, .int .i64 t279, .int .i64 (wrap64 (t280 + (wrap64 (1 + (l3.length : Int)))))] 27 (0, 0)) (by (with_reducible repeat (first | refine blk_drewN ?_ _ | refine blk_drew ?_ | refine blk_alloc ?_ _)); refine blk_put (cs := #[.slice (some ⟨go52, 0, none⟩) t275.length co13, .int .i64 t278, .int .i64 t279, .int .i64 t280]) ?_ 3 _ rfl; (with_reducible repeat (first | refine blk_drewN ?_ _ | refine blk_drew ?_ | refine blk_alloc ?_ _)); exact BK281.out) hb); have n4_ := Aside0.mk (below_step (by repeat (first | (with_reducible first | exact HB.out | apply below_alloc | apply pw_below_drewN | apply below_drew1 | refine below_set ?_ GE273.out | refine below_set ?_ GE274.out | refine below_set ?_ GE281.out) | exact HB.out)) hb); clear HO_282000; clear BK273; clear BK274; clear BK281; clear HB; have HO_282000 := n0_; have BK273 := n1_; have BK274 := n2_; have BK281 := n3_; have HB := n4_; clear n0_ n1_ n2_ n3_ n4_; (try clear hb); (try clear hb2); (try clear hk); (try clear hi); have hcz90_0 : w89.cell? ⟨gb273, 0, none⟩ = some (.slice A0_0 l0_0.length c0_0) := (blk_cell BK273.out 0).trans rfl; have hcz90_1 : w89.cell? ⟨gb273, 1, none⟩ = some (.int .i64 a0_1) := (blk_cell BK273.out 1).trans rfl; have hcz90_2 : w89.cell? ⟨gb273, 2, none⟩ = some (.int .i64 a0_2) := (blk_cell BK273.out 2).trans rfl; have hcz90_3 : w89.cell? ⟨gb273, 3, none⟩ = some (.int .i64 a0_3) := (blk_cell BK273.out 3).trans rfl; have hfz90_0 := blk_frozen BK273.out 0; have hfz90_1 := blk_frozen BK273.out 1; have hfz90_2 := blk_frozen BK273.out 2; have hfz90_3 := blk_frozen BK273.out 3) | ((with_reducible refine gate_callee (f := 63) rfl ?_); refine goesL_ (some 72) rfl rfl Try.func63 (by kernel_rfl) rfl #[.agg #[.slice A0_0 l0_0.length c0_0, .int .i64 a0_1, .int .i64 a0_2, .int .i64 a0_3]] rfl (by (try simp only [List.map_toArray, List.map_cons, List.map_nil]); first | done | rfl | (simp only [List.length_drop, List.length_take]; rfl)) ?_; (with_reducible refine (impl_copyHeap.calls _ _ l0_0 a0_1 a0_2 a0_3 t293 t296 t297 t298 _ ?side1 ?side2 A76.out).mono ?_); (case side1 => repeat (first | exact (Kd.C_below HR0_0.out HB.out) | (with_reducible refine Kd.C_alloc ?_ _) | (with_reducible refine Kd.C_drewN ?_ _) | (with_reducible refine Kd.C_drew ?_))); (case side2 => exact HC0_0.out); rintro e w91 ⟨v294, rfl, ho0, hb⟩; refine ⟨_, rfl, ?_⟩; have st_v294 : ∀ a_ m_ (w_ : World), (store a_ v294 m_).run Try.prog w_ = stored Try.prog w_ a_ v294 m_ := fun a_ m_ w_ => run_store _ w_ a_ _ m_ (by first | (obtain ⟨_, _, e_⟩ := Kd.R_slice ho0; rw [e_]; rfl) | (obtain ⟨_, _, e_⟩ := Kd.V_slice ho0; rw [e_]; rfl) | (obtain ⟨_, _, e_⟩ := Kd.R_slice (Kd.S_R ho0); rw [e_]; rfl)); have n0_ := Aside0.mk (Kd.R_elder' (by (with_reducible repeat (first | apply Kd.R_alloc | apply Kd.R_drewN | apply Kd.R_drew)); exact HO_282000.out) (Kd.R_base ho0) hb); have n1_ := Aside0.mk (Kd.R_lower (Kd.R_new' ho0 (Kd.R_lt (by (with_reducible repeat (first | apply Kd.R_alloc | apply Kd.R_drewN | apply Kd.R_drew)); exact HO_282000.out))) (below_size (by repeat (first | (with_reducible first | exact HB.out | apply below_alloc | apply pw_below_drewN | apply below_drew1 | refine below_set ?_ GE273.out | refine below_set ?_ GE274.out | refine below_set ?_ GE281.out) | exact HB.out)))); have n2_ := Aside0.mk (blk_below (g := gb273) (o := .cells #[.slice A0_0 l0_0.length c0_0, .int .i64 a0_1, .int .i64 a0_2, .int .i64 a0_3] 27 (0, 0)) (by (with_reducible repeat (first | refine blk_drewN ?_ _ | refine blk_drew ?_ | refine blk_alloc ?_ _)); exact BK273.out) hb); have n3_ := Aside0.mk (blk_below (g := gb274) (o := .cells #[.slice none 0 0, .int .i64 0, .int .i64 0, .int .i64 0] 27 (0, 0)) (by (with_reducible repeat (first | refine blk_drewN ?_ _ | refine blk_drew ?_ | refine blk_alloc ?_ _)); exact BK274.out) hb); have n4_ := Aside0.mk (blk_below (g := gb281) (o := .cells #[.slice (some ⟨go52, 0, none⟩) t275.length co13, .int .i64 t278, .int .i64 t279, .int .i64 (wrap64 (t280 + (wrap64 (1 + (l3.length : Int)))))] 27 (0, 0)) (by (with_reducible repeat (first | refine blk_drewN ?_ _ | refine blk_drew ?_ | refine blk_alloc ?_ _)); exact BK281.out) hb); have n5_ := Aside0.mk (below_step (by repeat (first | (with_reducible first | exact HB.out | apply below_alloc | apply pw_below_drewN | apply below_drew1 | refine below_set ?_ GE273.out | refine below_set ?_ GE274.out | refine below_set ?_ GE281.out) | exact HB.out)) hb); clear HO_282000; clear BK273; clear BK274; clear BK281; clear HB; have HO_282000 := n0_; have HO295 := n1_; have BK273 := n2_; have BK274 := n3_; have BK281 := n4_; have HB := n5_; clear n0_ n1_ n2_ n3_ n4_ n5_; (try clear hb); (try clear hb2); (try clear hk); (try clear hi); (try clear ho0); obtain ⟨Ao92, co92, eo92⟩ := Kd.R_slice HO295.out; subst eo92; have hcz93_0 : w91.cell? ⟨gb274, 0, none⟩ = some (.slice none 0 0) := (blk_cell BK274.out 0).trans rfl; have hcz93_1 : w91.cell? ⟨gb274, 1, none⟩ = some (.int .i64 0) := (blk_cell BK274.out 1).trans rfl; have hcz93_2 : w91.cell? ⟨gb274, 2, none⟩ = some (.int .i64 0) := (blk_cell BK274.out 2).trans rfl; have hcz93_3 : w91.cell? ⟨gb274, 3, none⟩ = some (.int .i64 0) := (blk_cell BK274.out 3).trans rfl; have hfz93_0 := blk_frozen BK274.out 0; have hfz93_1 := blk_frozen BK274.out 1; have hfz93_2 := blk_frozen BK274.out 2; have hfz93_3 := blk_frozen BK274.out 3))
                      refine bodyPost_ret (results_ctt rfl _ _ gb274 27 #[.slice Ao92 t293.length co92, .int .i64 t296, .int .i64 t297, .int .i64 t298] (0, 0) _ rfl (by (with_reducible repeat (first | refine blk_drewN ?_ _ | refine blk_drew ?_ | refine blk_alloc ?_ _)); refine blk_put (cs := #[.slice Ao92 t293.length co92, .int .i64 t296, .int .i64 t297, .int .i64 0]) ?_ 3 _ rfl; (with_reducible repeat (first | refine blk_drewN ?_ _ | refine blk_drew ?_ | refine blk_alloc ?_ _)); refine blk_put (cs := #[.slice Ao92 t293.length co92, .int .i64 t296, .int .i64 0, .int .i64 0]) ?_ 2 _ rfl; (with_reducible repeat (first | refine blk_drewN ?_ _ | refine blk_drew ?_ | refine blk_alloc ?_ _)); refine blk_put (cs := #[.slice Ao92 t293.length co92, .int .i64 0, .int .i64 0, .int .i64 0]) ?_ 1 _ rfl; (with_reducible repeat (first | refine blk_drewN ?_ _ | refine blk_drew ?_ | refine blk_alloc ?_ _)); refine blk_put (cs := #[.slice none 0 0, .int .i64 0, .int .i64 0, .int .i64 0]) ?_ 0 _ rfl; (with_reducible repeat (first | refine blk_drewN ?_ _ | refine blk_drew ?_ | refine blk_alloc ?_ _)); exact BK274.out) Try.underlying27 rfl (by kernel_rfl)) rfl ?_
                      exact ⟨_, by first | rfl | (simp [errW_none, errW_some] <;> rfl) | (simp only [← hji53]; first | rfl | (simp [errW_none, errW_some] <;> rfl)) | (simp [*, errW_none, errW_some] <;> rfl), by (with_reducible repeat (first | apply Kd.R_alloc | apply Kd.R_drewN | apply Kd.R_drew)); exact Kd.R_mono (Kd.R_far (p := ⟨gb274, 3, none⟩) (Kd.R_far (p := ⟨gb274, 2, none⟩) (Kd.R_far (p := ⟨gb274, 1, none⟩) (Kd.R_far (p := ⟨gb274, 0, none⟩) (Kd.R_types HO295.out BK274.out (by decide)) (fun _ hk => hk.2) (.slice Ao92 t293.length co92)) (fun _ hk => hk.2) (.int .i64 t296)) (fun _ hk => hk.2) (.int .i64 t297)) (fun _ hk => hk.2) (.int .i64 t298)) (fun _ hk => trivial), by repeat (first | (with_reducible first | exact HB.out | apply below_alloc | apply pw_below_drewN | apply below_drew1 | refine below_set ?_ GE273.out | refine below_set ?_ GE274.out | refine below_set ?_ GE281.out) | exact HB.out)⟩
                  · rw [if_neg c55] at H
                    exact absurd H (by simp)
                · rw [if_neg c54] at H
                  exact absurd H (by simp)
              · rw [if_neg c51] at H
                exact absurd H (by simp)
            · rw [if_neg c50] at H
              exact absurd H (by simp)

end Go.Proofs.Ytdpnebdepjdogaa.QFnExactAlloc
