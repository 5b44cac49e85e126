/- Go functions that the law FnExactBlockAt comes to: for each the Lean function that it computes, and the proof that its call does so. No conditions beyond those that each names. -/
import Derived.Test.YtdpnebdepjdogaaQFnExactBlockAtx0
import Derived.Test.YtdpnebdepjdogaaQFnExactBlockAtx1
import Derived.Test.YtdpnebdepjdogaaQFnExactBlockAtx3
import Derived.Test.YtdpnebdepjdogaaQFnExactBlockAtx5
import Derived.Test.YtdpnebdepjdogaaQFnExactBlockAtx6
namespace Go.Proofs.Ytdpnebdepjdogaa.QFnExactBlockAt
open Go.RowKit Go.Proofs.YtdpnebdepjdogaaW.PrintWords Go.Proofs.YtdpnebdepjdogaaW.PrintLast Go.Proofs.YtdpnebdepjdogaaW.PrintMore
attribute [local go_sem] max2_int min2_int max_two min_two max_three min_three max_four min_four   -- for this text's walks alone
set_option linter.unusedVariables false
set_option linter.unusedSimpArgs false

/-! ### laws_FnExactBlockAt: function 4 -/
mutual
def laws_FnExactBlockAt.j0 : Nat → Int → Bool → Int → List Int → Bool → Bool → Int → List Int → Bool → Bool → List Int → Int → Int → Int → List Int → Int → Int → Int → Option (Bool)
  | 0, _, _, _, _, _, _, _, _, _, _, _, _, _, _, _, _, _, _ => none
  | k + 1, x1, x6, x7, x8, x9, x11, x12, x13, x14, x64, x265000, x265001, x265002, x265003, x285000, x285001, x285002, x285003 => if x64 = true then (some false) else ((laws_toHeap.f k x265000 x265001 x265002 x265003).bind fun bt292 => ((laws_eqHeap.f k x285000 x285001 x285002 x285003 bt292.1 bt292.2.1 bt292.2.2.1 bt292.2.2.2).bind fun t298 => (if t298 = true then ((laws_markHeap.f k x285000 x285001 x285002 x285003 1).bind fun bt299 => (if bt299.1 < 0 then (laws_FnExactBlockAt.j1 k x1 x6 x7 x8 x9 x13 true x265000 x265001 x265002 x265003) else (if (x11 != x6) = true then (laws_FnExactBlockAt.j1 k x1 x6 x7 x8 x9 x13 true x265000 x265001 x265002 x265003) else (if x12 = x7 then ((laws_eqIntS.f k x13 x8).bind fun t301 => (if t301 = true then (laws_FnExactBlockAt.j1 k x1 x6 x7 x8 x9 x13 (x14 != x9) x265000 x265001 x265002 x265003) else (laws_FnExactBlockAt.j1 k x1 x6 x7 x8 x9 x13 true x265000 x265001 x265002 x265003))) else (laws_FnExactBlockAt.j1 k x1 x6 x7 x8 x9 x13 true x265000 x265001 x265002 x265003))))) else (some false))))
def laws_FnExactBlockAt.j1 : Nat → Int → Bool → Int → List Int → Bool → List Int → Bool → List Int → Int → Int → Int → Option (Bool)
  | 0, _, _, _, _, _, _, _, _, _, _, _ => none
  | k + 1, x1, x6, x7, x8, x9, x13, x95, x265000, x265001, x265002, x265003 => if x95 = true then (some false) else ((laws_markIntS.f k x13 1).bind fun bt302 => ((laws_heldIntS.f k bt302.2 1).bind fun t304 => (if t304 < 0 then (some false) else (if t304 = bt302.1 then ((laws_toHeap.f k x265000 x265001 x265002 x265003).bind fun bt305 => ((impl_BlockAt.f k bt305.1 bt305.2.1 bt305.2.2.1 bt305.2.2.2 x1).bind fun bt311 => (if (bt311.1 != x6) = true then (laws_FnExactBlockAt.j2 k bt302.2 bt302.1 true) else (if bt311.2.1 = x7 then ((laws_eqIntS.f k bt311.2.2.1 x8).bind fun t317 => (if t317 = true then (laws_FnExactBlockAt.j2 k bt302.2 bt302.1 (bt311.2.2.2 != x9)) else (laws_FnExactBlockAt.j2 k bt302.2 bt302.1 true))) else (laws_FnExactBlockAt.j2 k bt302.2 bt302.1 true))))) else (some false)))))
def laws_FnExactBlockAt.j2 : Nat → List Int → Int → Bool → Option (Bool)
  | 0, _, _, _ => none
  | k + 1, x13, x16, x134 => if x134 = true then (some false) else ((laws_heldIntS.f k x13 1).bind fun t318 => (if t318 < 0 then (some false) else (if t318 = x16 then (some true) else (some false))))
end
def laws_FnExactBlockAt.f (k : Nat) (l0_0 : List Int) (a0_1 : Int) (a0_2 : Int) (a0_3 : Int) (a1 : Int) : Option (Bool) := (laws_szHeap.f l0_0 a0_1 a0_2 a0_3 1048576).bind fun t265 => (if t265 < 0 then (some true) else ((laws_toHeap.f k l0_0 a0_1 a0_2 a0_3).bind fun bt266 => ((spec_BlockAt.f k bt266.1 bt266.2.1 bt266.2.2.1 bt266.2.2.2 a1).bind fun bt272 => ((laws_toHeap.f k l0_0 a0_1 a0_2 a0_3).bind fun bt278 => ((impl_BlockAt.f k bt278.1 bt278.2.1 bt278.2.2.1 bt278.2.2.2 a1).bind fun bt285 => (if (bt285.1 != bt272.1) = true then (laws_FnExactBlockAt.j0 k a1 bt272.1 bt272.2.1 bt272.2.2.1 bt272.2.2.2 bt285.1 bt285.2.1 bt285.2.2.1 bt285.2.2.2 true l0_0 a0_1 a0_2 a0_3 bt278.1 bt278.2.1 bt278.2.2.1 bt278.2.2.2) else (if bt285.2.1 = bt272.2.1 then ((laws_eqIntS.f k bt285.2.2.1 bt272.2.2.1).bind fun t291 => (if t291 = true then (laws_FnExactBlockAt.j0 k a1 bt272.1 bt272.2.1 bt272.2.2.1 bt272.2.2.2 bt285.1 bt285.2.1 bt285.2.2.1 bt285.2.2.2 (bt285.2.2.2 != bt272.2.2.2) l0_0 a0_1 a0_2 a0_3 bt278.1 bt278.2.1 bt278.2.2.1 bt278.2.2.2) else (laws_FnExactBlockAt.j0 k a1 bt272.1 bt272.2.1 bt272.2.2.1 bt272.2.2.2 bt285.1 bt285.2.1 bt285.2.2.1 bt285.2.2.2 true l0_0 a0_1 a0_2 a0_3 bt278.1 bt278.2.1 bt278.2.2.1 bt278.2.2.2))) else (laws_FnExactBlockAt.j0 k a1 bt272.1 bt272.2.1 bt272.2.2.1 bt272.2.2.2 bt285.1 bt285.2.1 bt285.2.2.1 bt285.2.2.2 true l0_0 a0_1 a0_2 a0_3 bt278.1 bt278.2.1 bt278.2.2.1 bt278.2.2.2))))))))
theorem laws_FnExactBlockAt.mono_l : ∀ k, (∀ y0 y1 y2 y3 y4 y5 y6 y7 y8 y9 y10 y11 y12 y13 y14 y15 y16 y17, LeO (laws_FnExactBlockAt.j0 k y0 y1 y2 y3 y4 y5 y6 y7 y8 y9 y10 y11 y12 y13 y14 y15 y16 y17) (laws_FnExactBlockAt.j0 (k + 1) y0 y1 y2 y3 y4 y5 y6 y7 y8 y9 y10 y11 y12 y13 y14 y15 y16 y17)) ∧ (∀ y0 y1 y2 y3 y4 y5 y6 y7 y8 y9 y10, LeO (laws_FnExactBlockAt.j1 k y0 y1 y2 y3 y4 y5 y6 y7 y8 y9 y10) (laws_FnExactBlockAt.j1 (k + 1) y0 y1 y2 y3 y4 y5 y6 y7 y8 y9 y10)) ∧ (∀ y0 y1 y2, LeO (laws_FnExactBlockAt.j2 k y0 y1 y2) (laws_FnExactBlockAt.j2 (k + 1) y0 y1 y2))
  | 0 => ⟨fun _ _ _ _ _ _ _ _ _ _ _ _ _ _ _ _ _ _ r h => by simp [laws_FnExactBlockAt.j0] at h, fun _ _ _ _ _ _ _ _ _ _ _ r h => by simp [laws_FnExactBlockAt.j1] at h, fun _ _ _ r h => by simp [laws_FnExactBlockAt.j2] at h⟩
  | k + 1 => by
    obtain ⟨ih0, ih1, ih2⟩ := laws_FnExactBlockAt.mono_l k
    refine ⟨?_, ?_, ?_⟩
    · intro y0 y1 y2 y3 y4 y5 y6 y7 y8 y9 y10 y11 y12 y13 y14 y15 y16 y17
      unfold laws_FnExactBlockAt.j0
      repeat' first
      | (with_reducible exact ih0 _ _ _ _ _ _ _ _ _ _ _ _ _ _ _ _ _ _)
      | (with_reducible exact ih1 _ _ _ _ _ _ _ _ _ _ _)
      | (with_reducible exact ih2 _ _ _)
      | (with_reducible exact impl_BlockAt.mono _ _ _ _ _ _)
      | (with_reducible exact laws_eqHeap.mono _ _ _ _ _ _ _ _ _)
      | (with_reducible exact laws_eqIntS.mono _ _ _)
      | (with_reducible exact laws_heldIntS.mono _ _ _)
      | (with_reducible exact laws_markHeap.mono _ _ _ _ _ _)
      | (with_reducible exact laws_markIntS.mono _ _ _)
      | (with_reducible exact laws_toHeap.mono _ _ _ _ _)
      | (with_reducible exact spec_BlockAt.mono _ _ _ _ _ _)
      | (with_reducible exact LeO.refl _)
      | (with_reducible exact LeO.none _)
      | (with_reducible refine LeO.ite ?_ ?_)
      | (with_reducible refine LeO.bind ?_ (fun _ => ?_))
      | exact ih0 _ _ _ _ _ _ _ _ _ _ _ _ _ _ _ _ _ _
      | exact ih1 _ _ _ _ _ _ _ _ _ _ _
      | exact ih2 _ _ _
      | exact impl_BlockAt.mono _ _ _ _ _ _
      | exact laws_eqHeap.mono _ _ _ _ _ _ _ _ _
      | exact laws_eqIntS.mono _ _ _
      | exact laws_heldIntS.mono _ _ _
      | exact laws_markHeap.mono _ _ _ _ _ _
      | exact laws_markIntS.mono _ _ _
      | exact laws_toHeap.mono _ _ _ _ _
      | exact spec_BlockAt.mono _ _ _ _ _ _
      | exact LeO.none _
      | refine LeO.ite ?_ ?_
      | refine LeO.bind ?_ (fun _ => ?_)
    · intro y0 y1 y2 y3 y4 y5 y6 y7 y8 y9 y10
      unfold laws_FnExactBlockAt.j1
      repeat' first
      | (with_reducible exact ih0 _ _ _ _ _ _ _ _ _ _ _ _ _ _ _ _ _ _)
      | (with_reducible exact ih1 _ _ _ _ _ _ _ _ _ _ _)
      | (with_reducible exact ih2 _ _ _)
      | (with_reducible exact impl_BlockAt.mono _ _ _ _ _ _)
      | (with_reducible exact laws_eqHeap.mono _ _ _ _ _ _ _ _ _)
      | (with_reducible exact laws_eqIntS.mono _ _ _)
      | (with_reducible exact laws_heldIntS.mono _ _ _)
      | (with_reducible exact laws_markHeap.mono _ _ _ _ _ _)
      | (with_reducible exact laws_markIntS.mono _ _ _)
      | (with_reducible exact laws_toHeap.mono _ _ _ _ _)
      | (with_reducible exact spec_BlockAt.mono _ _ _ _ _ _)
      | (with_reducible exact LeO.refl _)
      | (with_reducible exact LeO.none _)
      | (with_reducible refine LeO.ite ?_ ?_)
      | (with_reducible refine LeO.bind ?_ (fun _ => ?_))
      | exact ih0 _ _ _ _ _ _ _ _ _ _ _ _ _ _ _ _ _ _
      | exact ih1 _ _ _ _ _ _ _ _ _ _ _
      | exact ih2 _ _ _
      | exact impl_BlockAt.mono _ _ _ _ _ _
      | exact laws_eqHeap.mono _ _ _ _ _ _ _ _ _
      | exact laws_eqIntS.mono _ _ _
      | exact laws_heldIntS.mono _ _ _
      | exact laws_markHeap.mono _ _ _ _ _ _
      | exact laws_markIntS.mono _ _ _
      | exact laws_toHeap.mono _ _ _ _ _
      | exact spec_BlockAt.mono _ _ _ _ _ _
      | exact LeO.none _
      | refine LeO.ite ?_ ?_
      | refine LeO.bind ?_ (fun _ => ?_)
    · intro y0 y1 y2
      unfold laws_FnExactBlockAt.j2
      repeat' first
      | (with_reducible exact ih0 _ _ _ _ _ _ _ _ _ _ _ _ _ _ _ _ _ _)
      | (with_reducible exact ih1 _ _ _ _ _ _ _ _ _ _ _)
      | (with_reducible exact ih2 _ _ _)
      | (with_reducible exact impl_BlockAt.mono _ _ _ _ _ _)
      | (with_reducible exact laws_eqHeap.mono _ _ _ _ _ _ _ _ _)
      | (with_reducible exact laws_eqIntS.mono _ _ _)
      | (with_reducible exact laws_heldIntS.mono _ _ _)
      | (with_reducible exact laws_markHeap.mono _ _ _ _ _ _)
      | (with_reducible exact laws_markIntS.mono _ _ _)
      | (with_reducible exact laws_toHeap.mono _ _ _ _ _)
      | (with_reducible exact spec_BlockAt.mono _ _ _ _ _ _)
      | (with_reducible exact LeO.refl _)
      | (with_reducible exact LeO.none _)
      | (with_reducible refine LeO.ite ?_ ?_)
      | (with_reducible refine LeO.bind ?_ (fun _ => ?_))
      | exact ih0 _ _ _ _ _ _ _ _ _ _ _ _ _ _ _ _ _ _
      | exact ih1 _ _ _ _ _ _ _ _ _ _ _
      | exact ih2 _ _ _
      | exact impl_BlockAt.mono _ _ _ _ _ _
      | exact laws_eqHeap.mono _ _ _ _ _ _ _ _ _
      | exact laws_eqIntS.mono _ _ _
      | exact laws_heldIntS.mono _ _ _
      | exact laws_markHeap.mono _ _ _ _ _ _
      | exact laws_markIntS.mono _ _ _
      | exact laws_toHeap.mono _ _ _ _ _
      | exact spec_BlockAt.mono _ _ _ _ _ _
      | exact LeO.none _
      | refine LeO.ite ?_ ?_
      | refine LeO.bind ?_ (fun _ => ?_)
theorem laws_FnExactBlockAt.mono : ∀ a0 a1 a2 a3 a4 k, LeO (laws_FnExactBlockAt.f k a0 a1 a2 a3 a4) (laws_FnExactBlockAt.f (k + 1) a0 a1 a2 a3 a4) := by
  intro a0 a1 a2 a3 a4 k
  obtain ⟨ih0, ih1, ih2⟩ := laws_FnExactBlockAt.mono_l k
  unfold laws_FnExactBlockAt.f
  repeat' first
      | (with_reducible exact ih0 _ _ _ _ _ _ _ _ _ _ _ _ _ _ _ _ _ _)
      | (with_reducible exact ih1 _ _ _ _ _ _ _ _ _ _ _)
      | (with_reducible exact ih2 _ _ _)
      | (with_reducible exact impl_BlockAt.mono _ _ _ _ _ _)
      | (with_reducible exact laws_eqHeap.mono _ _ _ _ _ _ _ _ _)
      | (with_reducible exact laws_eqIntS.mono _ _ _)
      | (with_reducible exact laws_heldIntS.mono _ _ _)
      | (with_reducible exact laws_markHeap.mono _ _ _ _ _ _)
      | (with_reducible exact laws_markIntS.mono _ _ _)
      | (with_reducible exact laws_toHeap.mono _ _ _ _ _)
      | (with_reducible exact spec_BlockAt.mono _ _ _ _ _ _)
      | (with_reducible exact LeO.refl _)
      | (with_reducible exact LeO.none _)
      | (with_reducible refine LeO.ite ?_ ?_)
      | (with_reducible refine LeO.bind ?_ (fun _ => ?_))
      | exact ih0 _ _ _ _ _ _ _ _ _ _ _ _ _ _ _ _ _ _
      | exact ih1 _ _ _ _ _ _ _ _ _ _ _
      | exact ih2 _ _ _
      | exact impl_BlockAt.mono _ _ _ _ _ _
      | exact laws_eqHeap.mono _ _ _ _ _ _ _ _ _
      | exact laws_eqIntS.mono _ _ _
      | exact laws_heldIntS.mono _ _ _
      | exact laws_markHeap.mono _ _ _ _ _ _
      | exact laws_markIntS.mono _ _ _
      | exact laws_toHeap.mono _ _ _ _ _
      | exact spec_BlockAt.mono _ _ _ _ _ _
      | exact LeO.none _
      | refine LeO.ite ?_ ?_
      | refine LeO.bind ?_ (fun _ => ?_)
set_option maxHeartbeats 8000000 in
set_option maxRecDepth 100000 in
theorem laws_FnExactBlockAt.calls (k : Nat) (A0_0 : Option Addr) (c0_0 : Nat) (l0_0 : List Int) (a0_1 : Int) (a0_2 : Int) (a0_3 : Int) (a1 : Int) (r : Bool) (w : World) (hr0_0 : Kd.C (Kd.int .i64) w A0_0 l0_0.length l0_0) (hc0_0 : l0_0.length ≤ c0_0) (h : laws_FnExactBlockAt.f k l0_0 a0_1 a0_2 a0_3 a1 = some r) :
    Calls Try.prog 4 #[.agg #[.slice A0_0 l0_0.length c0_0, .int .i64 a0_1, .int .i64 a0_2, .int .i64 a0_3], .int .i64 a1] w fun e w' => e = .returned (.bool r) ∧ Below w.heap.size w w' := by
  have hu24 := Try.underlying24
  have hu27 := Try.underlying27
  have HR0_0 := Aside0.mk hr0_0
  have HC0_0 := Aside0.mk hc0_0
  clear hr0_0 hc0_0
  have HB := Aside0.mk (Below.refl w.heap.size w)
  have H : ((laws_szHeap.f l0_0 a0_1 a0_2 a0_3 1048576).bind fun t265 => (if t265 < 0 then (some true) else ((laws_toHeap.f k l0_0 a0_1 a0_2 a0_3).bind fun bt266 => ((spec_BlockAt.f k bt266.1 bt266.2.1 bt266.2.2.1 bt266.2.2.2 a1).bind fun bt272 => ((laws_toHeap.f k l0_0 a0_1 a0_2 a0_3).bind fun bt278 => ((impl_BlockAt.f k bt278.1 bt278.2.1 bt278.2.2.1 bt278.2.2.2 a1).bind fun bt285 => (if (bt285.1 != bt272.1) = true then (laws_FnExactBlockAt.j0 k a1 bt272.1 bt272.2.1 bt272.2.2.1 bt272.2.2.2 bt285.1 bt285.2.1 bt285.2.2.1 bt285.2.2.2 true l0_0 a0_1 a0_2 a0_3 bt278.1 bt278.2.1 bt278.2.2.1 bt278.2.2.2) else (if bt285.2.1 = bt272.2.1 then ((laws_eqIntS.f k bt285.2.2.1 bt272.2.2.1).bind fun t291 => (if t291 = true then (laws_FnExactBlockAt.j0 k a1 bt272.1 bt272.2.1 bt272.2.2.1 bt272.2.2.2 bt285.1 bt285.2.1 bt285.2.2.1 bt285.2.2.2 (bt285.2.2.2 != bt272.2.2.2) l0_0 a0_1 a0_2 a0_3 bt278.1 bt278.2.1 bt278.2.2.1 bt278.2.2.2) else (laws_FnExactBlockAt.j0 k a1 bt272.1 bt272.2.1 bt272.2.2.1 bt272.2.2.2 bt285.1 bt285.2.1 bt285.2.2.1 bt285.2.2.2 true l0_0 a0_1 a0_2 a0_3 bt278.1 bt278.2.1 bt278.2.2.1 bt278.2.2.2))) else (laws_FnExactBlockAt.j0 k a1 bt272.1 bt272.2.1 bt272.2.2.1 bt272.2.2.2 bt285.1 bt285.2.1 bt285.2.2.1 bt285.2.2.2 true l0_0 a0_1 a0_2 a0_3 bt278.1 bt278.2.1 bt278.2.2.1 bt278.2.2.2))))))))) = some r := h
  clear h
  replace H := Option.bind_eq_some_iff.mp H
  obtain ⟨t265, A30, H⟩ := H
  replace H : (if t265 < 0 then (some true) else ((laws_toHeap.f k l0_0 a0_1 a0_2 a0_3).bind fun bt266 => ((spec_BlockAt.f k bt266.1 bt266.2.1 bt266.2.2.1 bt266.2.2.2 a1).bind fun bt272 => ((laws_toHeap.f k l0_0 a0_1 a0_2 a0_3).bind fun bt278 => ((impl_BlockAt.f k bt278.1 bt278.2.1 bt278.2.2.1 bt278.2.2.2 a1).bind fun bt285 => (if (bt285.1 != bt272.1) = true then (laws_FnExactBlockAt.j0 k a1 bt272.1 bt272.2.1 bt272.2.2.1 bt272.2.2.2 bt285.1 bt285.2.1 bt285.2.2.1 bt285.2.2.2 true l0_0 a0_1 a0_2 a0_3 bt278.1 bt278.2.1 bt278.2.2.1 bt278.2.2.2) else (if bt285.2.1 = bt272.2.1 then ((laws_eqIntS.f k bt285.2.2.1 bt272.2.2.1).bind fun t291 => (if t291 = true then (laws_FnExactBlockAt.j0 k a1 bt272.1 bt272.2.1 bt272.2.2.1 bt272.2.2.2 bt285.1 bt285.2.1 bt285.2.2.1 bt285.2.2.2 (bt285.2.2.2 != bt272.2.2.2) l0_0 a0_1 a0_2 a0_3 bt278.1 bt278.2.1 bt278.2.2.1 bt278.2.2.2) else (laws_FnExactBlockAt.j0 k a1 bt272.1 bt272.2.1 bt272.2.2.1 bt272.2.2.2 bt285.1 bt285.2.1 bt285.2.2.1 bt285.2.2.2 true l0_0 a0_1 a0_2 a0_3 bt278.1 bt278.2.1 bt278.2.2.1 bt278.2.2.2))) else (laws_FnExactBlockAt.j0 k a1 bt272.1 bt272.2.1 bt272.2.2.1 bt272.2.2.2 bt285.1 bt285.2.1 bt285.2.2.1 bt285.2.2.2 true l0_0 a0_1 a0_2 a0_3 bt278.1 bt278.2.1 bt278.2.2.1 bt278.2.2.2)))))))) = some r := H
  have A3 := Aside0.mk A30
  clear A30
  by_cases c4 : t265 < 0
  · rw [if_pos c4] at H
    have c4b0 : decide (t265 < 0) = true := decide_eq_true c4
    clear c4
    obtain rfl := Option.some.inj H
    go_enter Try.func4, Try.ntmps4
    go_wp2_with (first | ((with_reducible refine gate_dst (N := 2) rfl ?_); refine box_event ?hg (N := 2) ?hd (cs := #[.slice A0_0 l0_0.length c0_0, .int .i64 a0_1, .int .i64 a0_2, .int .i64 a0_3]) (t := 24) ?hr ?_; (case hd => rfl); (case hg => rfl); (case hr => first | (go_simp; done) | (go_simp; rfl)); intro gb264 hg w5 hbox hb; have n0_ := Aside0.mk (below_step (by repeat (first | (with_reducible first | exact HB.out | apply below_alloc | apply pw_below_drewN | apply below_drew1) | exact HB.out)) hb); have n1_ := Aside0.mk (hbox); have n2_ := Aside0.mk ((by rw [hg]; exact (below_size (by repeat (first | (with_reducible first | exact HB.out | apply below_alloc | apply pw_below_drewN | apply below_drew1) | exact HB.out))) : w.heap.size ≤ gb264)); have n3_ := Aside0.mk ((by rw [hg]; exact (below_size (by repeat (first | (with_reducible first | exact HB.out | apply below_alloc | apply pw_below_drewN | apply below_drew1) | exact HB.out))) : w.heap.size ≤ gb264)); clear HB; have HB := n0_; have BK264 := n1_; have GW264 := n2_; have GE264 := n3_; clear n0_ n1_ n2_ n3_; clear hb hbox hg; have hcz6_0 : w5.cell? ⟨gb264, 0, none⟩ = some (.slice A0_0 l0_0.length c0_0) := (blk_cell BK264.out 0).trans rfl; have hcz6_1 : w5.cell? ⟨gb264, 1, none⟩ = some (.int .i64 a0_1) := (blk_cell BK264.out 1).trans rfl; have hcz6_2 : w5.cell? ⟨gb264, 2, none⟩ = some (.int .i64 a0_2) := (blk_cell BK264.out 2).trans rfl; have hcz6_3 : w5.cell? ⟨gb264, 3, none⟩ = some (.int .i64 a0_3) := (blk_cell BK264.out 3).trans rfl; have hfz6_0 := blk_frozen BK264.out 0; have hfz6_1 := blk_frozen BK264.out 1; have hfz6_2 := blk_frozen BK264.out 2; have hfz6_3 := blk_frozen BK264.out 3) | ((with_reducible refine gate_callee (f := 12) rfl ?_); refine goesL_ (some 24) rfl rfl Try.func12 (by kernel_rfl) rfl #[.agg #[.slice A0_0 l0_0.length c0_0, .int .i64 a0_1, .int .i64 a0_2, .int .i64 a0_3], .int .i64 1048576] rfl (by (try simp only [List.map_toArray, List.map_cons, List.map_nil]); first | done | rfl | (simp only [List.length_drop, List.length_take]; rfl)) ?_; (with_reducible refine (laws_szHeap.calls _ _ l0_0 a0_1 a0_2 a0_3 1048576 t265 _ ?side1 ?side2 A3.out).mono ?_); (case side1 => repeat (first | exact (Kd.C_below HR0_0.out HB.out) | (with_reducible refine Kd.C_alloc ?_ _) | (with_reducible refine Kd.C_drewN ?_ _) | (with_reducible refine Kd.C_drew ?_))); (case side2 => exact HC0_0.out); rintro e w7 ⟨rfl, hb⟩; refine ⟨_, rfl, ?_⟩; have n0_ := Aside0.mk (blk_below (g := gb264) (o := .cells #[.slice A0_0 l0_0.length c0_0, .int .i64 a0_1, .int .i64 a0_2, .int .i64 a0_3] 24 (0, 0)) (by (with_reducible repeat (first | refine blk_drewN ?_ _ | refine blk_drew ?_ | refine blk_alloc ?_ _)); exact BK264.out) hb); have n1_ := Aside0.mk (below_step (by repeat (first | (with_reducible first | exact HB.out | apply below_alloc | apply pw_below_drewN | apply below_drew1 | refine below_set ?_ GE264.out) | exact HB.out)) hb); clear BK264; clear HB; have BK264 := n0_; have HB := n1_; clear n0_ n1_; (try clear hb); (try clear hb2); (try clear hk); (try clear hi)))
    go_ret
    exact ⟨by first | rfl | (simp [errW_none, errW_some] <;> rfl) | (simp [*, errW_none, errW_some] <;> rfl), by repeat (first | (with_reducible first | exact HB.out | apply below_alloc | apply pw_below_drewN | apply below_drew1 | refine below_set ?_ GE264.out) | exact HB.out)⟩
  · rw [if_neg c4] at H
    have c4b0 : decide (t265 < 0) = false := decide_eq_false c4
    clear c4
    replace H := Option.bind_eq_some_iff.mp H
    obtain ⟨⟨t266, t269, t270, t271⟩, A80, H⟩ := H
    replace H : ((spec_BlockAt.f k t266 t269 t270 t271 a1).bind fun bt272 => ((laws_toHeap.f k l0_0 a0_1 a0_2 a0_3).bind fun bt278 => ((impl_BlockAt.f k bt278.1 bt278.2.1 bt278.2.2.1 bt278.2.2.2 a1).bind fun bt285 => (if (bt285.1 != bt272.1) = true then (laws_FnExactBlockAt.j0 k a1 bt272.1 bt272.2.1 bt272.2.2.1 bt272.2.2.2 bt285.1 bt285.2.1 bt285.2.2.1 bt285.2.2.2 true l0_0 a0_1 a0_2 a0_3 bt278.1 bt278.2.1 bt278.2.2.1 bt278.2.2.2) else (if bt285.2.1 = bt272.2.1 then ((laws_eqIntS.f k bt285.2.2.1 bt272.2.2.1).bind fun t291 => (if t291 = true then (laws_FnExactBlockAt.j0 k a1 bt272.1 bt272.2.1 bt272.2.2.1 bt272.2.2.2 bt285.1 bt285.2.1 bt285.2.2.1 bt285.2.2.2 (bt285.2.2.2 != bt272.2.2.2) l0_0 a0_1 a0_2 a0_3 bt278.1 bt278.2.1 bt278.2.2.1 bt278.2.2.2) else (laws_FnExactBlockAt.j0 k a1 bt272.1 bt272.2.1 bt272.2.2.1 bt272.2.2.2 bt285.1 bt285.2.1 bt285.2.2.1 bt285.2.2.2 true l0_0 a0_1 a0_2 a0_3 bt278.1 bt278.2.1 bt278.2.2.1 bt278.2.2.2))) else (laws_FnExactBlockAt.j0 k a1 bt272.1 bt272.2.1 bt272.2.2.1 bt272.2.2.2 bt285.1 bt285.2.1 bt285.2.2.1 bt285.2.2.2 true l0_0 a0_1 a0_2 a0_3 bt278.1 bt278.2.1 bt278.2.2.1 bt278.2.2.2)))))) = some r := H
    have A8 := Aside0.mk A80
    clear A80
    replace H := Option.bind_eq_some_iff.mp H
    obtain ⟨⟨t272, t273, t274, t277⟩, A90, H⟩ := H
    replace H : ((laws_toHeap.f k l0_0 a0_1 a0_2 a0_3).bind fun bt278 => ((impl_BlockAt.f k bt278.1 bt278.2.1 bt278.2.2.1 bt278.2.2.2 a1).bind fun bt285 => (if (bt285.1 != t272) = true then (laws_FnExactBlockAt.j0 k a1 t272 t273 t274 t277 bt285.1 bt285.2.1 bt285.2.2.1 bt285.2.2.2 true l0_0 a0_1 a0_2 a0_3 bt278.1 bt278.2.1 bt278.2.2.1 bt278.2.2.2) else (if bt285.2.1 = t273 then ((laws_eqIntS.f k bt285.2.2.1 t274).bind fun t291 => (if t291 = true then (laws_FnExactBlockAt.j0 k a1 t272 t273 t274 t277 bt285.1 bt285.2.1 bt285.2.2.1 bt285.2.2.2 (bt285.2.2.2 != t277) l0_0 a0_1 a0_2 a0_3 bt278.1 bt278.2.1 bt278.2.2.1 bt278.2.2.2) else (laws_FnExactBlockAt.j0 k a1 t272 t273 t274 t277 bt285.1 bt285.2.1 bt285.2.2.1 bt285.2.2.2 true l0_0 a0_1 a0_2 a0_3 bt278.1 bt278.2.1 bt278.2.2.1 bt278.2.2.2))) else (laws_FnExactBlockAt.j0 k a1 t272 t273 t274 t277 bt285.1 bt285.2.1 bt285.2.2.1 bt285.2.2.2 true l0_0 a0_1 a0_2 a0_3 bt278.1 bt278.2.1 bt278.2.2.1 bt278.2.2.2))))) = some r := H
    have A9 := Aside0.mk A90
    clear A90
    replace H := Option.bind_eq_some_iff.mp H
    obtain ⟨⟨t278, t281, t282, t283⟩, A100, H⟩ := H
    replace H : ((impl_BlockAt.f k t278 t281 t282 t283 a1).bind fun bt285 => (if (bt285.1 != t272) = true then (laws_FnExactBlockAt.j0 k a1 t272 t273 t274 t277 bt285.1 bt285.2.1 bt285.2.2.1 bt285.2.2.2 true l0_0 a0_1 a0_2 a0_3 t278 t281 t282 t283) else (if bt285.2.1 = t273 then ((laws_eqIntS.f k bt285.2.2.1 t274).bind fun t291 => (if t291 = true then (laws_FnExactBlockAt.j0 k a1 t272 t273 t274 t277 bt285.1 bt285.2.1 bt285.2.2.1 bt285.2.2.2 (bt285.2.2.2 != t277) l0_0 a0_1 a0_2 a0_3 t278 t281 t282 t283) else (laws_FnExactBlockAt.j0 k a1 t272 t273 t274 t277 bt285.1 bt285.2.1 bt285.2.2.1 bt285.2.2.2 true l0_0 a0_1 a0_2 a0_3 t278 t281 t282 t283))) else (laws_FnExactBlockAt.j0 k a1 t272 t273 t274 t277 bt285.1 bt285.2.1 bt285.2.2.1 bt285.2.2.2 true l0_0 a0_1 a0_2 a0_3 t278 t281 t282 t283)))) = some r := H
    have A10 := Aside0.mk A100
    clear A100
    replace H := Option.bind_eq_some_iff.mp H
    obtain ⟨⟨t285, t286, t287, t290⟩, A110, H⟩ := H
    replace H : (if (t285 != t272) = true then (laws_FnExactBlockAt.j0 k a1 t272 t273 t274 t277 t285 t286 t287 t290 true l0_0 a0_1 a0_2 a0_3 t278 t281 t282 t283) else (if t286 = t273 then ((laws_eqIntS.f k t287 t274).bind fun t291 => (if t291 = true then (laws_FnExactBlockAt.j0 k a1 t272 t273 t274 t277 t285 t286 t287 t290 (t290 != t277) l0_0 a0_1 a0_2 a0_3 t278 t281 t282 t283) else (laws_FnExactBlockAt.j0 k a1 t272 t273 t274 t277 t285 t286 t287 t290 true l0_0 a0_1 a0_2 a0_3 t278 t281 t282 t283))) else (laws_FnExactBlockAt.j0 k a1 t272 t273 t274 t277 t285 t286 t287 t290 true l0_0 a0_1 a0_2 a0_3 t278 t281 t282 t283))) = some r := H
    have A11 := Aside0.mk A110
    clear A110
    have HC12 := Aside0.mk H
    clear H
    go_enter Try.func4, Try.ntmps4
    go_upto_region 8 with (first | ((with_reducible refine gate_dst (N := 2) rfl ?_); refine box_event ?hg (N := 2) ?hd (cs := #[.slice A0_0 l0_0.length c0_0, .int .i64 a0_1, .int .i64 a0_2, .int .i64 a0_3]) (t := 24) ?hr ?_; (case hd => rfl); (case hg => rfl); (case hr => first | (go_simp; done) | (go_simp; rfl)); intro gb264 hg w13 hbox hb; have n0_ := Aside0.mk (below_step (by repeat (first | (with_reducible first | exact HB.out | apply below_alloc | apply pw_below_drewN | apply below_drew1) | exact HB.out)) hb); have n1_ := Aside0.mk (hbox); have n2_ := Aside0.mk ((by rw [hg]; exact (below_size (by repeat (first | (with_reducible first | exact HB.out | apply below_alloc | apply pw_below_drewN | apply below_drew1) | exact HB.out))) : w.heap.size ≤ gb264)); have n3_ := Aside0.mk ((by rw [hg]; exact (below_size (by repeat (first | (with_reducible first | exact HB.out | apply below_alloc | apply pw_below_drewN | apply below_drew1) | exact HB.out))) : w.heap.size ≤ gb264)); clear HB; have HB := n0_; have BK264 := n1_; have GW264 := n2_; have GE264 := n3_; clear n0_ n1_ n2_ n3_; clear hb hbox hg; have hcz14_0 : w13.cell? ⟨gb264, 0, none⟩ = some (.slice A0_0 l0_0.length c0_0) := (blk_cell BK264.out 0).trans rfl; have hcz14_1 : w13.cell? ⟨gb264, 1, none⟩ = some (.int .i64 a0_1) := (blk_cell BK264.out 1).trans rfl; have hcz14_2 : w13.cell? ⟨gb264, 2, none⟩ = some (.int .i64 a0_2) := (blk_cell BK264.out 2).trans rfl; have hcz14_3 : w13.cell? ⟨gb264, 3, none⟩ = some (.int .i64 a0_3) := (blk_cell BK264.out 3).trans rfl; have hfz14_0 := blk_frozen BK264.out 0; have hfz14_1 := blk_frozen BK264.out 1; have hfz14_2 := blk_frozen BK264.out 2; have hfz14_3 := blk_frozen BK264.out 3) | ((with_reducible refine gate_callee (f := 12) rfl ?_); refine goesL_ (some 24) rfl rfl Try.func12 (by kernel_rfl) rfl #[.agg #[.slice A0_0 l0_0.length c0_0, .int .i64 a0_1, .int .i64 a0_2, .int .i64 a0_3], .int .i64 1048576] rfl (by (try simp only [List.map_toArray, List.map_cons, List.map_nil]); first | done | rfl | (simp only [List.length_drop, List.length_take]; rfl)) ?_; (with_reducible refine (laws_szHeap.calls _ _ l0_0 a0_1 a0_2 a0_3 1048576 t265 _ ?side1 ?side2 A3.out).mono ?_); (case side1 => repeat (first | exact (Kd.C_below HR0_0.out HB.out) | (with_reducible refine Kd.C_alloc ?_ _) | (with_reducible refine Kd.C_drewN ?_ _) | (with_reducible refine Kd.C_drew ?_))); (case side2 => exact HC0_0.out); rintro e w15 ⟨rfl, hb⟩; refine ⟨_, rfl, ?_⟩; have n0_ := Aside0.mk (blk_below (g := gb264) (o := .cells #[.slice A0_0 l0_0.length c0_0, .int .i64 a0_1, .int .i64 a0_2, .int .i64 a0_3] 24 (0, 0)) (by (with_reducible repeat (first | refine blk_drewN ?_ _ | refine blk_drew ?_ | refine blk_alloc ?_ _)); exact BK264.out) hb); have n1_ := Aside0.mk (below_step (by repeat (first | (with_reducible first | exact HB.out | apply below_alloc | apply pw_below_drewN | apply below_drew1 | refine below_set ?_ GE264.out) | exact HB.out)) hb); clear BK264; clear HB; have BK264 := n0_; have HB := n1_; clear n0_ n1_; (try clear hb); (try clear hb2); (try clear hk); (try clear hi); have hcz16_0 : w15.cell? ⟨gb264, 0, none⟩ = some (.slice A0_0 l0_0.length c0_0) := (blk_cell BK264.out 0).trans rfl; have hcz16_1 : w15.cell? ⟨gb264, 1, none⟩ = some (.int .i64 a0_1) := (blk_cell BK264.out 1).trans rfl; have hcz16_2 : w15.cell? ⟨gb264, 2, none⟩ = some (.int .i64 a0_2) := (blk_cell BK264.out 2).trans rfl; have hcz16_3 : w15.cell? ⟨gb264, 3, none⟩ = some (.int .i64 a0_3) := (blk_cell BK264.out 3).trans rfl; have hfz16_0 := blk_frozen BK264.out 0; have hfz16_1 := blk_frozen BK264.out 1; have hfz16_2 := blk_frozen BK264.out 2; have hfz16_3 := blk_frozen BK264.out 3) | ((with_reducible refine gate_callee (f := 14) rfl ?_); refine goesL_ (some 29) rfl rfl Try.func14 (by kernel_rfl) rfl #[.agg #[.slice A0_0 l0_0.length c0_0, .int .i64 a0_1, .int .i64 a0_2, .int .i64 a0_3]] rfl (by (try simp only [List.map_toArray, List.map_cons, List.map_nil]); first | done | rfl | (simp only [List.length_drop, List.length_take]; rfl)) ?_; (with_reducible refine (laws_toHeap.calls k _ _ l0_0 a0_1 a0_2 a0_3 t266 t269 t270 t271 _ ?side1 ?side2 A8.out).mono ?_); (case side1 => repeat (first | exact (Kd.C_below HR0_0.out HB.out) | (with_reducible refine Kd.C_alloc ?_ _) | (with_reducible refine Kd.C_drewN ?_ _) | (with_reducible refine Kd.C_drew ?_))); (case side2 => exact HC0_0.out); rintro e w17 ⟨v267, rfl, ho0, hb⟩; refine ⟨_, rfl, ?_⟩; have st_v267 : ∀ a_ m_ (w_ : World), (store a_ v267 m_).run Try.prog w_ = stored Try.prog w_ a_ v267 m_ := fun a_ m_ w_ => run_store _ w_ a_ _ m_ (by first | (obtain ⟨_, _, e_⟩ := Kd.R_slice ho0; rw [e_]; rfl) | (obtain ⟨_, _, e_⟩ := Kd.V_slice ho0; rw [e_]; rfl) | (obtain ⟨_, _, e_⟩ := Kd.R_slice (Kd.S_R ho0); rw [e_]; rfl)); have n0_ := Aside0.mk (Kd.R_lower ho0 (below_size (by repeat (first | (with_reducible first | exact HB.out | apply below_alloc | apply pw_below_drewN | apply below_drew1 | refine below_set ?_ GE264.out) | exact HB.out)))); have n1_ := Aside0.mk (blk_below (g := gb264) (o := .cells #[.slice A0_0 l0_0.length c0_0, .int .i64 a0_1, .int .i64 a0_2, .int .i64 a0_3] 24 (0, 0)) (by (with_reducible repeat (first | refine blk_drewN ?_ _ | refine blk_drew ?_ | refine blk_alloc ?_ _)); exact BK264.out) hb); have n2_ := Aside0.mk (below_step (by repeat (first | (with_reducible first | exact HB.out | apply below_alloc | apply pw_below_drewN | apply below_drew1 | refine below_set ?_ GE264.out) | exact HB.out)) hb); clear BK264; clear HB; have HO268 := n0_; have BK264 := n1_; have HB := n2_; clear n0_ n1_ n2_; (try clear hb); (try clear hb2); (try clear hk); (try clear hi); (try clear ho0); obtain ⟨Ao18, co18, eo18⟩ := Kd.R_slice HO268.out; subst eo18) | ((with_reducible refine gate_callee (f := 17) rfl ?_); refine goesL_ (some 31) rfl rfl Try.func17 (by kernel_rfl) rfl #[.agg #[.slice Ao18 t266.length co18, .int .i64 t269, .int .i64 t270, .int .i64 t271], .int .i64 a1] rfl (by (try simp only [List.map_toArray, List.map_cons, List.map_nil]); first | done | rfl | (simp only [List.length_drop, List.length_take]; rfl)) ?_; (with_reducible refine (spec_BlockAt.calls k _ _ t266 t269 t270 t271 a1 t272 t273 t274 t277 _ ?side1 ?side2 A9.out).mono ?_); (case side1 => repeat (first | exact (Kd.R_reads' HO268.out).2.2 | (with_reducible refine Kd.C_alloc ?_ _) | (with_reducible refine Kd.C_drewN ?_ _) | (with_reducible refine Kd.C_drew ?_))); (case side2 => exact (Kd.R_reads' HO268.out).2.1); rintro e w19 ⟨v275, rfl, ho0, hb⟩; refine ⟨_, rfl, ?_⟩; have n0_ := Aside0.mk (Kd.R_elder' (by (with_reducible repeat (first | apply Kd.R_alloc | apply Kd.R_drewN | apply Kd.R_drew)); exact HO268.out) (Kd.R_base ho0) hb); have n1_ := Aside0.mk (Kd.R_lower (Kd.R_new' ho0 (Kd.R_lt (by (with_reducible repeat (first | apply Kd.R_alloc | apply Kd.R_drewN | apply Kd.R_drew)); exact HO268.out))) (below_size (by repeat (first | (with_reducible first | exact HB.out | apply below_alloc | apply pw_below_drewN | apply below_drew1 | refine below_set ?_ GE264.out) | exact HB.out)))); have n2_ := Aside0.mk (blk_below (g := gb264) (o := .cells #[.slice A0_0 l0_0.length c0_0, .int .i64 a0_1, .int .i64 a0_2, .int .i64 a0_3] 24 (0, 0)) (by (with_reducible repeat (first | refine blk_drewN ?_ _ | refine blk_drew ?_ | refine blk_alloc ?_ _)); exact BK264.out) hb); have n3_ := Aside0.mk (below_step (by repeat (first | (with_reducible first | exact HB.out | apply below_alloc | apply pw_below_drewN | apply below_drew1 | refine below_set ?_ GE264.out) | exact HB.out)) hb); clear HO268; clear BK264; clear HB; have HO268 := n0_; have HO276 := n1_; have BK264 := n2_; have HB := n3_; clear n0_ n1_ n2_ n3_; (try clear hb); (try clear hb2); (try clear hk); (try clear hi); (try clear ho0); have hcz20_0 : w19.cell? ⟨gb264, 0, none⟩ = some (.slice A0_0 l0_0.length c0_0) := (blk_cell BK264.out 0).trans rfl; have hcz20_1 : w19.cell? ⟨gb264, 1, none⟩ = some (.int .i64 a0_1) := (blk_cell BK264.out 1).trans rfl; have hcz20_2 : w19.cell? ⟨gb264, 2, none⟩ = some (.int .i64 a0_2) := (blk_cell BK264.out 2).trans rfl; have hcz20_3 : w19.cell? ⟨gb264, 3, none⟩ = some (.int .i64 a0_3) := (blk_cell BK264.out 3).trans rfl; have hfz20_0 := blk_frozen BK264.out 0; have hfz20_1 := blk_frozen BK264.out 1; have hfz20_2 := blk_frozen BK264.out 2; have hfz20_3 := blk_frozen BK264.out 3) | ((with_reducible refine gate_callee (f := 14) rfl ?_); refine goesL_ (some 37) rfl rfl Try.func14 (by kernel_rfl) rfl #[.agg #[.slice A0_0 l0_0.length c0_0, .int .i64 a0_1, .int .i64 a0_2, .int .i64 a0_3]] rfl (by (try simp only [List.map_toArray, List.map_cons, List.map_nil]); first | done | rfl | (simp only [List.length_drop, List.length_take]; rfl)) ?_; (with_reducible refine (laws_toHeap.calls k _ _ l0_0 a0_1 a0_2 a0_3 t278 t281 t282 t283 _ ?side1 ?side2 A10.out).mono ?_); (case side1 => repeat (first | exact (Kd.C_below HR0_0.out HB.out) | (with_reducible refine Kd.C_alloc ?_ _) | (with_reducible refine Kd.C_drewN ?_ _) | (with_reducible refine Kd.C_drew ?_))); (case side2 => exact HC0_0.out); rintro e w21 ⟨v279, rfl, ho0, hb⟩; refine ⟨_, rfl, ?_⟩; have st_v279 : ∀ a_ m_ (w_ : World), (store a_ v279 m_).run Try.prog w_ = stored Try.prog w_ a_ v279 m_ := fun a_ m_ w_ => run_store _ w_ a_ _ m_ (by first | (obtain ⟨_, _, e_⟩ := Kd.R_slice ho0; rw [e_]; rfl) | (obtain ⟨_, _, e_⟩ := Kd.V_slice ho0; rw [e_]; rfl) | (obtain ⟨_, _, e_⟩ := Kd.R_slice (Kd.S_R ho0); rw [e_]; rfl)); have n0_ := Aside0.mk (Kd.R_elder' (by (with_reducible repeat (first | apply Kd.R_alloc | apply Kd.R_drewN | apply Kd.R_drew)); exact HO268.out) (Kd.R_base ho0) hb); have n1_ := Aside0.mk (Kd.R_elder' (by (with_reducible repeat (first | apply Kd.R_alloc | apply Kd.R_drewN | apply Kd.R_drew)); exact HO276.out) (Kd.R_base ho0) hb); have n2_ := Aside0.mk (Kd.R_lower (Kd.R_new' (Kd.R_new' ho0 (Kd.R_lt (by (with_reducible repeat (first | apply Kd.R_alloc | apply Kd.R_drewN | apply Kd.R_drew)); exact HO268.out))) (Kd.R_lt (by (with_reducible repeat (first | apply Kd.R_alloc | apply Kd.R_drewN | apply Kd.R_drew)); exact HO276.out))) (below_size (by repeat (first | (with_reducible first | exact HB.out | apply below_alloc | apply pw_below_drewN | apply below_drew1 | refine below_set ?_ GE264.out) | exact HB.out)))); have n3_ := Aside0.mk (blk_below (g := gb264) (o := .cells #[.slice A0_0 l0_0.length c0_0, .int .i64 a0_1, .int .i64 a0_2, .int .i64 a0_3] 24 (0, 0)) (by (with_reducible repeat (first | refine blk_drewN ?_ _ | refine blk_drew ?_ | refine blk_alloc ?_ _)); exact BK264.out) hb); have n4_ := Aside0.mk (below_step (by repeat (first | (with_reducible first | exact HB.out | apply below_alloc | apply pw_below_drewN | apply below_drew1 | refine below_set ?_ GE264.out) | exact HB.out)) hb); clear HO268; clear HO276; clear BK264; clear HB; have HO268 := n0_; have HO276 := n1_; have HO280 := n2_; have BK264 := n3_; have HB := n4_; clear n0_ n1_ n2_ n3_ n4_; (try clear hb); (try clear hb2); (try clear hk); (try clear hi); (try clear ho0)) | ((with_reducible refine gate_dst (N := 10) rfl ?_); refine box_event ?hg (N := 10) ?hd (cs := #[.slice none 0 0, .int .i64 0, .int .i64 0, .int .i64 0]) (t := 27) ?hr ?_; (case hd => rfl); (case hg => rfl); (case hr => first | (go_simp; done) | (go_simp; rfl)); intro gb284 hg w22 hbox hb; have n0_ := Aside0.mk (Kd.R_below (by (with_reducible repeat (first | apply Kd.R_alloc | apply Kd.R_drewN | apply Kd.R_drew)); exact HO268.out) hb); have n1_ := Aside0.mk (Kd.R_below (by (with_reducible repeat (first | apply Kd.R_alloc | apply Kd.R_drewN | apply Kd.R_drew)); exact HO276.out) hb); have n2_ := Aside0.mk (Kd.R_below (by (with_reducible repeat (first | apply Kd.R_alloc | apply Kd.R_drewN | apply Kd.R_drew)); exact HO280.out) hb); have n3_ := Aside0.mk (blk_below (g := gb264) (o := .cells #[.slice A0_0 l0_0.length c0_0, .int .i64 a0_1, .int .i64 a0_2, .int .i64 a0_3] 24 (0, 0)) (by (with_reducible repeat (first | refine blk_drewN ?_ _ | refine blk_drew ?_ | refine blk_alloc ?_ _)); exact BK264.out) hb); have n4_ := Aside0.mk (below_step (by repeat (first | (with_reducible first | exact HB.out | apply below_alloc | apply pw_below_drewN | apply below_drew1 | refine below_set ?_ GE264.out) | exact HB.out)) hb); have n5_ := Aside0.mk (hbox); have n6_ := Aside0.mk ((by rw [hg]; exact (below_size (by repeat (first | (with_reducible first | exact HB.out | apply below_alloc | apply pw_below_drewN | apply below_drew1 | refine below_set ?_ GE264.out) | exact HB.out))) : w.heap.size ≤ gb284)); have n7_ := Aside0.mk ((by rw [hg]; exact (below_size (by repeat (first | (with_reducible first | exact HB.out | apply below_alloc | apply pw_below_drewN | apply below_drew1 | refine below_set ?_ GE264.out) | exact HB.out))) : w.heap.size ≤ gb284)); have n8_ := Aside0.mk ((by rw [hg]; exact Nat.ne_of_lt (blk_lt (g := gb264) (o := .cells #[.slice A0_0 l0_0.length c0_0, .int .i64 a0_1, .int .i64 a0_2, .int .i64 a0_3] 24 (0, 0)) (by (with_reducible repeat (first | refine blk_drewN ?_ _ | refine blk_drew ?_ | refine blk_alloc ?_ _)); exact BK264.out)) : gb264 ≠ gb284)); have n9_ := Aside0.mk ((by rw [hg]; exact Nat.ne_of_gt (blk_lt (g := gb264) (o := .cells #[.slice A0_0 l0_0.length c0_0, .int .i64 a0_1, .int .i64 a0_2, .int .i64 a0_3] 24 (0, 0)) (by (with_reducible repeat (first | refine blk_drewN ?_ _ | refine blk_drew ?_ | refine blk_alloc ?_ _)); exact BK264.out)) : gb284 ≠ gb264)); clear HO268; clear HO276; clear HO280; clear BK264; clear HB; have HO268 := n0_; have HO276 := n1_; have HO280 := n2_; have BK264 := n3_; have HB := n4_; have BK284 := n5_; have GW284 := n6_; have GE284 := n7_; have NB264_284 := n8_; have NB284_264 := n9_; clear n0_ n1_ n2_ n3_ n4_ n5_ n6_ n7_ n8_ n9_; clear hb hbox hg; obtain ⟨Ao23, co23, eo23⟩ := Kd.R_slice HO280.out; subst eo23; have hnb24 := NB284_264.out; have hnc24 := NB264_284.out; have hcz25_0 : w22.cell? ⟨gb284, 0, none⟩ = some (.slice none 0 0) := (blk_cell BK284.out 0).trans rfl; have hcz25_1 : w22.cell? ⟨gb284, 1, none⟩ = some (.int .i64 0) := (blk_cell BK284.out 1).trans rfl; have hcz25_2 : w22.cell? ⟨gb284, 2, none⟩ = some (.int .i64 0) := (blk_cell BK284.out 2).trans rfl; have hcz25_3 : w22.cell? ⟨gb284, 3, none⟩ = some (.int .i64 0) := (blk_cell BK284.out 3).trans rfl; have hfz25_0 := blk_frozen BK284.out 0; have hfz25_1 := blk_frozen BK284.out 1; have hfz25_2 := blk_frozen BK284.out 2; have hfz25_3 := blk_frozen BK284.out 3) | ((with_reducible refine gate_callee (f := 18) rfl ?_); refine goesL_ (some 41) rfl rfl Try.func18 (by kernel_rfl) rfl #[.agg #[.slice Ao23 t278.length co23, .int .i64 t281, .int .i64 t282, .int .i64 t283], .int .i64 a1] rfl (by (try simp only [List.map_toArray, List.map_cons, List.map_nil]); first | done | rfl | (simp only [List.length_drop, List.length_take]; rfl)) ?_; (with_reducible refine (impl_BlockAt.calls k _ _ t278 t281 t282 t283 a1 t285 t286 t287 t290 _ ?side1 ?side2 A11.out).mono ?_); (case side1 => refine (Kd.R_reads' (e := 3) (base := w.heap.size) (ok := fun k_ => ((True ∧ some k_ ≠ (.slice Ao18 t266.length co18 : Value).ownBlock) ∧ some k_ ≠ (v275 : Value).ownBlock)) (n := t278.length) (c := co23) ?_).2.2; exact (by (with_reducible repeat (first | apply Kd.R_alloc | apply Kd.R_drewN | apply Kd.R_drew)); exact (Kd.R_mono (Kd.R_far (p := ⟨gb284, 3, none⟩) (Kd.R_far (p := ⟨gb284, 2, none⟩) (Kd.R_far (p := ⟨gb284, 1, none⟩) (Kd.R_far (p := ⟨gb284, 0, none⟩) (Kd.R_types HO280.out BK284.out (by decide)) (fun _ hk => hk.2) (.slice Ao23 t278.length co23)) (fun _ hk => hk.2) (.int .i64 t281)) (fun _ hk => hk.2) (.int .i64 t282)) (fun _ hk => hk.2) (.int .i64 t283)) (fun _ h_ => h_.1)))); (case side2 => exact (Kd.R_reads' HO280.out).2.1); rintro e w26 ⟨v288, rfl, ho0, hb⟩; refine ⟨_, rfl, ?_⟩; have n0_ := Aside0.mk (Kd.R_elder' (by (with_reducible repeat (first | apply Kd.R_alloc | apply Kd.R_drewN | apply Kd.R_drew)); exact (Kd.R_mono (Kd.R_far (p := ⟨gb284, 3, none⟩) (Kd.R_far (p := ⟨gb284, 2, none⟩) (Kd.R_far (p := ⟨gb284, 1, none⟩) (Kd.R_far (p := ⟨gb284, 0, none⟩) (Kd.R_types HO268.out BK284.out (by decide)) (fun _ hk => hk.2) (.slice Ao23 t278.length co23)) (fun _ hk => hk.2) (.int .i64 t281)) (fun _ hk => hk.2) (.int .i64 t282)) (fun _ hk => hk.2) (.int .i64 t283)) (fun _ h_ => h_.1))) (Kd.R_base ho0) hb); have n1_ := Aside0.mk (Kd.R_elder' (by (with_reducible repeat (first | apply Kd.R_alloc | apply Kd.R_drewN | apply Kd.R_drew)); exact (Kd.R_mono (Kd.R_far (p := ⟨gb284, 3, none⟩) (Kd.R_far (p := ⟨gb284, 2, none⟩) (Kd.R_far (p := ⟨gb284, 1, none⟩) (Kd.R_far (p := ⟨gb284, 0, none⟩) (Kd.R_types HO276.out BK284.out (by decide)) (fun _ hk => hk.2) (.slice Ao23 t278.length co23)) (fun _ hk => hk.2) (.int .i64 t281)) (fun _ hk => hk.2) (.int .i64 t282)) (fun _ hk => hk.2) (.int .i64 t283)) (fun _ h_ => h_.1))) (Kd.R_base ho0) hb); have n2_ := Aside0.mk (Kd.R_elder' (by (with_reducible repeat (first | apply Kd.R_alloc | apply Kd.R_drewN | apply Kd.R_drew)); exact (Kd.R_mono (Kd.R_far (p := ⟨gb284, 3, none⟩) (Kd.R_far (p := ⟨gb284, 2, none⟩) (Kd.R_far (p := ⟨gb284, 1, none⟩) (Kd.R_far (p := ⟨gb284, 0, none⟩) (Kd.R_types HO280.out BK284.out (by decide)) (fun _ hk => hk.2) (.slice Ao23 t278.length co23)) (fun _ hk => hk.2) (.int .i64 t281)) (fun _ hk => hk.2) (.int .i64 t282)) (fun _ hk => hk.2) (.int .i64 t283)) (fun _ h_ => h_.1))) (Kd.R_base ho0) hb); have n3_ := Aside0.mk (Kd.R_lower (Kd.R_new' (Kd.R_new' (Kd.R_new' ho0 (Kd.R_lt (by (with_reducible repeat (first | apply Kd.R_alloc | apply Kd.R_drewN | apply Kd.R_drew)); exact (Kd.R_mono (Kd.R_far (p := ⟨gb284, 3, none⟩) (Kd.R_far (p := ⟨gb284, 2, none⟩) (Kd.R_far (p := ⟨gb284, 1, none⟩) (Kd.R_far (p := ⟨gb284, 0, none⟩) (Kd.R_types HO268.out BK284.out (by decide)) (fun _ hk => hk.2) (.slice Ao23 t278.length co23)) (fun _ hk => hk.2) (.int .i64 t281)) (fun _ hk => hk.2) (.int .i64 t282)) (fun _ hk => hk.2) (.int .i64 t283)) (fun _ h_ => h_.1))))) (Kd.R_lt (by (with_reducible repeat (first | apply Kd.R_alloc | apply Kd.R_drewN | apply Kd.R_drew)); exact (Kd.R_mono (Kd.R_far (p := ⟨gb284, 3, none⟩) (Kd.R_far (p := ⟨gb284, 2, none⟩) (Kd.R_far (p := ⟨gb284, 1, none⟩) (Kd.R_far (p := ⟨gb284, 0, none⟩) (Kd.R_types HO276.out BK284.out (by decide)) (fun _ hk => hk.2) (.slice Ao23 t278.length co23)) (fun _ hk => hk.2) (.int .i64 t281)) (fun _ hk => hk.2) (.int .i64 t282)) (fun _ hk => hk.2) (.int .i64 t283)) (fun _ h_ => h_.1))))) (Kd.R_lt (by (with_reducible repeat (first | apply Kd.R_alloc | apply Kd.R_drewN | apply Kd.R_drew)); exact (Kd.R_mono (Kd.R_far (p := ⟨gb284, 3, none⟩) (Kd.R_far (p := ⟨gb284, 2, none⟩) (Kd.R_far (p := ⟨gb284, 1, none⟩) (Kd.R_far (p := ⟨gb284, 0, none⟩) (Kd.R_types HO280.out BK284.out (by decide)) (fun _ hk => hk.2) (.slice Ao23 t278.length co23)) (fun _ hk => hk.2) (.int .i64 t281)) (fun _ hk => hk.2) (.int .i64 t282)) (fun _ hk => hk.2) (.int .i64 t283)) (fun _ h_ => h_.1))))) (below_size (by repeat (first | (with_reducible first | exact HB.out | apply below_alloc | apply pw_below_drewN | apply below_drew1 | refine below_set ?_ GE264.out | refine below_set ?_ GE284.out) | exact HB.out)))); have n4_ := Aside0.mk (blk_below (g := gb264) (o := .cells #[.slice A0_0 l0_0.length c0_0, .int .i64 a0_1, .int .i64 a0_2, .int .i64 a0_3] 24 (0, 0)) (by (with_reducible repeat (first | refine blk_drewN ?_ _ | refine blk_drew ?_ | refine blk_alloc ?_ _)); refine blk_far ?_ NB264_284.out _; (with_reducible repeat (first | refine blk_drewN ?_ _ | refine blk_drew ?_ | refine blk_alloc ?_ _)); refine blk_far ?_ NB264_284.out _; (with_reducible repeat (first | refine blk_drewN ?_ _ | refine blk_drew ?_ | refine blk_alloc ?_ _)); refine blk_far ?_ NB264_284.out _; (with_reducible repeat (first | refine blk_drewN ?_ _ | refine blk_drew ?_ | refine blk_alloc ?_ _)); refine blk_far ?_ NB264_284.out _; (with_reducible repeat (first | refine blk_drewN ?_ _ | refine blk_drew ?_ | refine blk_alloc ?_ _)); exact BK264.out) hb); have n5_ := Aside0.mk (blk_below (g := gb284) (o := .cells #[.slice Ao23 t278.length co23, .int .i64 t281, .int .i64 t282, .int .i64 t283] 27 (0, 0)) (by (with_reducible repeat (first | refine blk_drewN ?_ _ | refine blk_drew ?_ | refine blk_alloc ?_ _)); refine blk_put (cs := #[.slice Ao23 t278.length co23, .int .i64 t281, .int .i64 t282, .int .i64 0]) ?_ 3 _ rfl; (with_reducible repeat (first | refine blk_drewN ?_ _ | refine blk_drew ?_ | refine blk_alloc ?_ _)); refine blk_put (cs := #[.slice Ao23 t278.length co23, .int .i64 t281, .int .i64 0, .int .i64 0]) ?_ 2 _ rfl; (with_reducible repeat (first | refine blk_drewN ?_ _ | refine blk_drew ?_ | refine blk_alloc ?_ _)); refine blk_put (cs := #[.slice Ao23 t278.length co23, .int .i64 0, .int .i64 0, .int .i64 0]) ?_ 1 _ rfl; (with_reducible repeat (first | refine blk_drewN ?_ _ | refine blk_drew ?_ | refine blk_alloc ?_ _)); refine blk_put (cs := #[.slice none 0 0, .int .i64 0, .int .i64 0, .int .i64 0]) ?_ 0 _ rfl; (with_reducible repeat (first | refine blk_drewN ?_ _ | refine blk_drew ?_ | refine blk_alloc ?_ _)); exact BK284.out) hb); have n6_ := Aside0.mk (below_step (by repeat (first | (with_reducible first | exact HB.out | apply below_alloc | apply pw_below_drewN | apply below_drew1 | refine below_set ?_ GE264.out | refine below_set ?_ GE284.out) | exact HB.out)) hb); clear HO268; clear HO276; clear HO280; clear BK264; clear BK284; clear HB; have HO268 := n0_; have HO276 := n1_; have HO280 := n2_; have HO289 := n3_; have BK264 := n4_; have BK284 := n5_; have HB := n6_; clear n0_ n1_ n2_ n3_ n4_ n5_ n6_; (try clear hb); (try clear hb2); (try clear hk); (try clear hi); (try clear ho0)))
    (try simp only [Act.put, List.setIfInBounds_toArray, List.set_cons_zero, List.set_cons_succ])
    go_cut [64] (fun v64 wc => ∃ (kq : Nat) (x64_11 : Bool), v64 = .bool x64_11 ∧ Aside0 (laws_FnExactBlockAt.j0 kq a1 t272 t273 t274 t277 t285 t286 t287 t290 x64_11 l0_0 a0_1 a0_2 a0_3 t278 t281 t282 t283 = some r) ∧ Aside0 (kq ≤ k) ∧ Aside0 (Kd.R (Kd.int .i64) 3 wc w.heap.size (fun k_ => some k_ ≠ (v288 : Value).ownBlock ∧ some k_ ≠ ((.slice Ao23 t278.length co23) : Value).ownBlock) v275 t274) ∧ Aside0 (Kd.R (Kd.int .i64) 3 wc w.heap.size (fun k_ => some k_ ≠ (v275 : Value).ownBlock ∧ some k_ ≠ ((.slice Ao23 t278.length co23) : Value).ownBlock) v288 t287) ∧ Aside0 (Kd.R (Kd.int .i64) 3 wc w.heap.size (fun k_ => some k_ ≠ (v275 : Value).ownBlock ∧ some k_ ≠ (v288 : Value).ownBlock) (.slice Ao23 t278.length co23) t278) ∧ Aside0 (wc.heap[gb264]? = some (.cells #[(.slice A0_0 l0_0.length c0_0), .int .i64 a0_1, .int .i64 a0_2, .int .i64 a0_3] 24 (0, 0))) ∧ Aside0 (wc.heap[gb284]? = some (.cells #[(.slice Ao23 t278.length co23), .int .i64 t281, .int .i64 t282, .int .i64 t283] 27 (0, 0))) ∧ Aside0 (Below w.heap.size w wc))
    case first =>
      have H := HC12.out
      clear HC12
      by_cases c27 : (t285 != t272) = true
      · rw [if_pos c27] at H
        have c27b0 : (t285 != t272) = true := c27
        (try (have c27b1 : decide (t285 = t272) = false := by simpa using c27))
        (try (have c27b2 : (t285 == t272) = false := by simpa using c27))
        (try (have c27b3 : ¬ (t285 = t272) := by simpa using c27))
        clear c27
        (first | rw [c27b0] | (simp only [i64_w, i32_w]; rw [c27b0]) | skip)
        have H' := Aside0.mk H
        clear H
        go_wp2
        go_meet
        case rel => exact ⟨_, (true), (by first | rfl | (simp; done) | (simp [*]; done)), H', ⟨by first | omega | exact Nat.le_refl _⟩, ⟨by (with_reducible repeat (first | apply Kd.R_alloc | apply Kd.R_drewN | apply Kd.R_drew)); exact Kd.R_mono HO276.out (fun _ hk => ⟨hk.2, hk.1.2⟩)⟩, ⟨by (with_reducible repeat (first | apply Kd.R_alloc | apply Kd.R_drewN | apply Kd.R_drew)); exact Kd.R_mono HO289.out (fun _ hk => ⟨hk.1.2, hk.2⟩)⟩, ⟨by (with_reducible repeat (first | apply Kd.R_alloc | apply Kd.R_drewN | apply Kd.R_drew)); exact Kd.R_mono HO280.out (fun _ hk => ⟨hk.1.2, hk.2⟩)⟩, ⟨by (with_reducible repeat (first | refine blk_drewN ?_ _ | refine blk_drew ?_ | refine blk_alloc ?_ _)); exact BK264.out⟩, ⟨by (with_reducible repeat (first | refine blk_drewN ?_ _ | refine blk_drew ?_ | refine blk_alloc ?_ _)); exact BK284.out⟩, ⟨by repeat (first | (with_reducible first | exact HB.out | apply below_alloc | apply pw_below_drewN | apply below_drew1 | refine below_set ?_ GE264.out | refine below_set ?_ GE284.out) | exact HB.out)⟩⟩
      · rw [if_neg c27] at H
        have c27b0 : (t285 != t272) = false := by simpa using c27
        (try (have c27b1 : decide (t285 = t272) = true := by simpa using c27))
        (try (have c27b2 : (t285 == t272) = true := by simpa using c27))
        clear c27
        (first | rw [c27b0] | (simp only [i64_w, i32_w]; rw [c27b0]) | skip)
        by_cases c28 : t286 = t273
        · rw [if_pos c28] at H
          have c28b0 : (t286 == t273) = true := beq_iff_eq.mpr c28
          have c28b1 : (t286 != t273) = false := bne_eq_false_iff_eq.mpr c28
          clear c28
          replace H := Option.bind_eq_some_iff.mp H
          obtain ⟨t291, A290, H⟩ := H
          replace H : (if t291 = true then (laws_FnExactBlockAt.j0 k a1 t272 t273 t274 t277 t285 t286 t287 t290 (t290 != t277) l0_0 a0_1 a0_2 a0_3 t278 t281 t282 t283) else (laws_FnExactBlockAt.j0 k a1 t272 t273 t274 t277 t285 t286 t287 t290 true l0_0 a0_1 a0_2 a0_3 t278 t281 t282 t283)) = some r := H
          have A29 := Aside0.mk A290
          clear A290
          by_cases c30 : t291 = true
          · subst c30
            have H1 : (laws_FnExactBlockAt.j0 k a1 t272 t273 t274 t277 t285 t286 t287 t290 (t290 != t277) l0_0 a0_1 a0_2 a0_3 t278 t281 t282 t283) = some r := by rw [if_pos rfl] at H; exact H
            clear H
            have H := H1
            clear H1
            have H' := Aside0.mk H
            clear H
            obtain ⟨Ao31, co31, eo31⟩ := Kd.R_slice HO289.out
            subst eo31
            obtain ⟨Ao32, co32, eo32⟩ := Kd.R_slice HO276.out
            subst eo32
            go_wp2_with (first | (go_at_call 19; (with_reducible refine (laws_eqIntS.calls k _ _ t287 _ _ t274 true _ ?side1 ?side2 ?side3 ?side4 A29.out).mono ?_); (case side1 => repeat (first | exact (Kd.R_reads' HO289.out).2.2 | (with_reducible refine Kd.C_alloc ?_ _) | (with_reducible refine Kd.C_drewN ?_ _) | (with_reducible refine Kd.C_drew ?_))); (case side2 => exact (Kd.R_reads' HO289.out).2.1); (case side3 => repeat (first | exact (Kd.R_reads' HO276.out).2.2 | (with_reducible refine Kd.C_alloc ?_ _) | (with_reducible refine Kd.C_drewN ?_ _) | (with_reducible refine Kd.C_drew ?_))); (case side4 => exact (Kd.R_reads' HO276.out).2.1); rintro e w' ⟨rfl, ⟨nd, rfl⟩⟩))
            go_meet
            case rel => exact ⟨_, ((t290 != t277)), (by first | rfl | (simp; done) | (simp [*]; done)), H', ⟨by first | omega | exact Nat.le_refl _⟩, ⟨by (with_reducible repeat (first | apply Kd.R_alloc | apply Kd.R_drewN | apply Kd.R_drew)); exact Kd.R_mono HO276.out (fun _ hk => ⟨hk.2, hk.1.2⟩)⟩, ⟨by (with_reducible repeat (first | apply Kd.R_alloc | apply Kd.R_drewN | apply Kd.R_drew)); exact Kd.R_mono HO289.out (fun _ hk => ⟨hk.1.2, hk.2⟩)⟩, ⟨by (with_reducible repeat (first | apply Kd.R_alloc | apply Kd.R_drewN | apply Kd.R_drew)); exact Kd.R_mono HO280.out (fun _ hk => ⟨hk.1.2, hk.2⟩)⟩, ⟨by (with_reducible repeat (first | refine blk_drewN ?_ _ | refine blk_drew ?_ | refine blk_alloc ?_ _)); exact BK264.out⟩, ⟨by (with_reducible repeat (first | refine blk_drewN ?_ _ | refine blk_drew ?_ | refine blk_alloc ?_ _)); exact BK284.out⟩, ⟨by repeat (first | (with_reducible first | exact HB.out | apply below_alloc | apply pw_below_drewN | apply below_drew1 | refine below_set ?_ GE264.out | refine below_set ?_ GE284.out) | exact HB.out)⟩⟩
          · replace c30 := Bool.eq_false_iff.mpr c30
            subst c30
            have H1 : (laws_FnExactBlockAt.j0 k a1 t272 t273 t274 t277 t285 t286 t287 t290 true l0_0 a0_1 a0_2 a0_3 t278 t281 t282 t283) = some r := by rw [if_neg (show ¬ (false = true) by decide)] at H; exact H
            clear H
            have H := H1
            clear H1
            have H' := Aside0.mk H
            clear H
            obtain ⟨Ao33, co33, eo33⟩ := Kd.R_slice HO289.out
            subst eo33
            obtain ⟨Ao34, co34, eo34⟩ := Kd.R_slice HO276.out
            subst eo34
            go_wp2_with (first | (go_at_call 19; (with_reducible refine (laws_eqIntS.calls k _ _ t287 _ _ t274 false _ ?side1 ?side2 ?side3 ?side4 A29.out).mono ?_); (case side1 => repeat (first | exact (Kd.R_reads' HO289.out).2.2 | (with_reducible refine Kd.C_alloc ?_ _) | (with_reducible refine Kd.C_drewN ?_ _) | (with_reducible refine Kd.C_drew ?_))); (case side2 => exact (Kd.R_reads' HO289.out).2.1); (case side3 => repeat (first | exact (Kd.R_reads' HO276.out).2.2 | (with_reducible refine Kd.C_alloc ?_ _) | (with_reducible refine Kd.C_drewN ?_ _) | (with_reducible refine Kd.C_drew ?_))); (case side4 => exact (Kd.R_reads' HO276.out).2.1); rintro e w' ⟨rfl, ⟨nd, rfl⟩⟩))
            go_meet
            case rel => exact ⟨_, (true), (by first | rfl | (simp; done) | (simp [*]; done)), H', ⟨by first | omega | exact Nat.le_refl _⟩, ⟨by (with_reducible repeat (first | apply Kd.R_alloc | apply Kd.R_drewN | apply Kd.R_drew)); exact Kd.R_mono HO276.out (fun _ hk => ⟨hk.2, hk.1.2⟩)⟩, ⟨by (with_reducible repeat (first | apply Kd.R_alloc | apply Kd.R_drewN | apply Kd.R_drew)); exact Kd.R_mono HO289.out (fun _ hk => ⟨hk.1.2, hk.2⟩)⟩, ⟨by (with_reducible repeat (first | apply Kd.R_alloc | apply Kd.R_drewN | apply Kd.R_drew)); exact Kd.R_mono HO280.out (fun _ hk => ⟨hk.1.2, hk.2⟩)⟩, ⟨by (with_reducible repeat (first | refine blk_drewN ?_ _ | refine blk_drew ?_ | refine blk_alloc ?_ _)); exact BK264.out⟩, ⟨by (with_reducible repeat (first | refine blk_drewN ?_ _ | refine blk_drew ?_ | refine blk_alloc ?_ _)); exact BK284.out⟩, ⟨by repeat (first | (with_reducible first | exact HB.out | apply below_alloc | apply pw_below_drewN | apply below_drew1 | refine below_set ?_ GE264.out | refine below_set ?_ GE284.out) | exact HB.out)⟩⟩
        · rw [if_neg c28] at H
          have c28b0 : (t286 == t273) = false := beq_eq_false_iff_ne.mpr c28
          have c28b1 : (t286 != t273) = true := bne_iff_ne.mpr c28
          have H' := Aside0.mk H
          clear H
          go_wp2
          go_meet
          case rel => exact ⟨_, (true), (by first | rfl | (simp; done) | (simp [*]; done)), H', ⟨by first | omega | exact Nat.le_refl _⟩, ⟨by (with_reducible repeat (first | apply Kd.R_alloc | apply Kd.R_drewN | apply Kd.R_drew)); exact Kd.R_mono HO276.out (fun _ hk => ⟨hk.2, hk.1.2⟩)⟩, ⟨by (with_reducible repeat (first | apply Kd.R_alloc | apply Kd.R_drewN | apply Kd.R_drew)); exact Kd.R_mono HO289.out (fun _ hk => ⟨hk.1.2, hk.2⟩)⟩, ⟨by (with_reducible repeat (first | apply Kd.R_alloc | apply Kd.R_drewN | apply Kd.R_drew)); exact Kd.R_mono HO280.out (fun _ hk => ⟨hk.1.2, hk.2⟩)⟩, ⟨by (with_reducible repeat (first | refine blk_drewN ?_ _ | refine blk_drew ?_ | refine blk_alloc ?_ _)); exact BK264.out⟩, ⟨by (with_reducible repeat (first | refine blk_drewN ?_ _ | refine blk_drew ?_ | refine blk_alloc ?_ _)); exact BK284.out⟩, ⟨by repeat (first | (with_reducible first | exact HB.out | apply below_alloc | apply pw_below_drewN | apply below_drew1 | refine below_set ?_ GE264.out | refine below_set ?_ GE284.out) | exact HB.out)⟩⟩
    case rest =>
      clear HC12
      try clear c1
      try clear c2
      try clear p2
      try clear c3
      try clear c4
      try clear c4b0
      try clear c12
      try clear c14
      try clear c17
      try clear c18
      try clear c24
      try clear c27
      try clear c27b0
      try clear c27b1
      try clear c27b2
      try clear c28
      try clear c28b0
      try clear c28b1
      try clear c30
      try clear hcz14_0
      try clear hcz14_1
      try clear hcz14_2
      try clear hcz14_3
      try clear hcz16_0
      try clear hcz16_1
      try clear hcz16_2
      try clear hcz16_3
      try clear hcz20_0
      try clear hcz20_1
      try clear hcz20_2
      try clear hcz20_3
      try clear hcz25_0
      try clear hcz25_1
      try clear hcz25_2
      try clear hcz25_3
      try clear hcz6_0
      try clear hcz6_1
      try clear hcz6_2
      try clear hcz6_3
      try clear hfz14_0
      try clear hfz14_1
      try clear hfz14_2
      try clear hfz14_3
      try clear hfz16_0
      try clear hfz16_1
      try clear hfz16_2
      try clear hfz16_3
      try clear hfz20_0
      try clear hfz20_1
      try clear hfz20_2
      try clear hfz20_3
      try clear hfz25_0
      try clear hfz25_1
      try clear hfz25_2
      try clear hfz25_3
      try clear hfz6_0
      try clear hfz6_1
      try clear hfz6_2
      try clear hfz6_3
      obtain ⟨kq, x64_11, rfl, HA, HJ11, HO_8, HO_13, HO_285000, BK264, BK284, HB⟩ := hcut
      cases kq with
      | zero => exact absurd HA.out (by simp [laws_FnExactBlockAt.j0])
      | succ kj11 =>
        have H := HA.out
        clear HA
        simp only [laws_FnExactBlockAt.j0] at H
        by_cases c35 : x64_11 = true
        · subst c35
          have H1 : (some false) = some r := by rw [if_pos rfl] at H; exact H
          clear H
          have H := H1
          clear H1
          obtain rfl := Option.some.inj H
          go_wp2
          go_ret
          exact ⟨by first | rfl | (simp [errW_none, errW_some] <;> rfl) | (simp [*, errW_none, errW_some] <;> rfl), by repeat (first | (with_reducible first | exact HB.out | apply below_alloc | apply pw_below_drewN | apply below_drew1 | refine below_set ?_ GE264.out | refine below_set ?_ GE284.out) | exact HB.out)⟩
        · replace c35 := Bool.eq_false_iff.mpr c35
          subst c35
          have H1 : ((laws_toHeap.f kj11 l0_0 a0_1 a0_2 a0_3).bind fun bt292 => ((laws_eqHeap.f kj11 t278 t281 t282 t283 bt292.1 bt292.2.1 bt292.2.2.1 bt292.2.2.2).bind fun t298 => (if t298 = true then ((laws_markHeap.f kj11 t278 t281 t282 t283 1).bind fun bt299 => (if bt299.1 < 0 then (laws_FnExactBlockAt.j1 kj11 a1 t272 t273 t274 t277 t287 true l0_0 a0_1 a0_2 a0_3) else (if (t285 != t272) = true then (laws_FnExactBlockAt.j1 kj11 a1 t272 t273 t274 t277 t287 true l0_0 a0_1 a0_2 a0_3) else (if t286 = t273 then ((laws_eqIntS.f kj11 t287 t274).bind fun t301 => (if t301 = true then (laws_FnExactBlockAt.j1 kj11 a1 t272 t273 t274 t277 t287 (t290 != t277) l0_0 a0_1 a0_2 a0_3) else (laws_FnExactBlockAt.j1 kj11 a1 t272 t273 t274 t277 t287 true l0_0 a0_1 a0_2 a0_3))) else (laws_FnExactBlockAt.j1 kj11 a1 t272 t273 t274 t277 t287 true l0_0 a0_1 a0_2 a0_3))))) else (some false)))) = some r := by rw [if_neg (show ¬ (false = true) by decide)] at H; exact H
          clear H
          have H := H1
          clear H1
          replace H := Option.bind_eq_some_iff.mp H
          obtain ⟨⟨t292, t295, t296, t297⟩, A360, H⟩ := H
          replace H : ((laws_eqHeap.f kj11 t278 t281 t282 t283 t292 t295 t296 t297).bind fun t298 => (if t298 = true then ((laws_markHeap.f kj11 t278 t281 t282 t283 1).bind fun bt299 => (if bt299.1 < 0 then (laws_FnExactBlockAt.j1 kj11 a1 t272 t273 t274 t277 t287 true l0_0 a0_1 a0_2 a0_3) else (if (t285 != t272) = true then (laws_FnExactBlockAt.j1 kj11 a1 t272 t273 t274 t277 t287 true l0_0 a0_1 a0_2 a0_3) else (if t286 = t273 then ((laws_eqIntS.f kj11 t287 t274).bind fun t301 => (if t301 = true then (laws_FnExactBlockAt.j1 kj11 a1 t272 t273 t274 t277 t287 (t290 != t277) l0_0 a0_1 a0_2 a0_3) else (laws_FnExactBlockAt.j1 kj11 a1 t272 t273 t274 t277 t287 true l0_0 a0_1 a0_2 a0_3))) else (laws_FnExactBlockAt.j1 kj11 a1 t272 t273 t274 t277 t287 true l0_0 a0_1 a0_2 a0_3))))) else (some false))) = some r := H
          have A36 := Aside0.mk A360
          clear A360
          replace H := Option.bind_eq_some_iff.mp H
          obtain ⟨t298, A370, H⟩ := H
          replace H : (if t298 = true then ((laws_markHeap.f kj11 t278 t281 t282 t283 1).bind fun bt299 => (if bt299.1 < 0 then (laws_FnExactBlockAt.j1 kj11 a1 t272 t273 t274 t277 t287 true l0_0 a0_1 a0_2 a0_3) else (if (t285 != t272) = true then (laws_FnExactBlockAt.j1 kj11 a1 t272 t273 t274 t277 t287 true l0_0 a0_1 a0_2 a0_3) else (if t286 = t273 then ((laws_eqIntS.f kj11 t287 t274).bind fun t301 => (if t301 = true then (laws_FnExactBlockAt.j1 kj11 a1 t272 t273 t274 t277 t287 (t290 != t277) l0_0 a0_1 a0_2 a0_3) else (laws_FnExactBlockAt.j1 kj11 a1 t272 t273 t274 t277 t287 true l0_0 a0_1 a0_2 a0_3))) else (laws_FnExactBlockAt.j1 kj11 a1 t272 t273 t274 t277 t287 true l0_0 a0_1 a0_2 a0_3))))) else (some false)) = some r := H
          have A37 := Aside0.mk A370
          clear A370
          by_cases c38 : t298 = true
          · subst c38
            have H1 : ((laws_markHeap.f kj11 t278 t281 t282 t283 1).bind fun bt299 => (if bt299.1 < 0 then (laws_FnExactBlockAt.j1 kj11 a1 t272 t273 t274 t277 t287 true l0_0 a0_1 a0_2 a0_3) else (if (t285 != t272) = true then (laws_FnExactBlockAt.j1 kj11 a1 t272 t273 t274 t277 t287 true l0_0 a0_1 a0_2 a0_3) else (if t286 = t273 then ((laws_eqIntS.f kj11 t287 t274).bind fun t301 => (if t301 = true then (laws_FnExactBlockAt.j1 kj11 a1 t272 t273 t274 t277 t287 (t290 != t277) l0_0 a0_1 a0_2 a0_3) else (laws_FnExactBlockAt.j1 kj11 a1 t272 t273 t274 t277 t287 true l0_0 a0_1 a0_2 a0_3))) else (laws_FnExactBlockAt.j1 kj11 a1 t272 t273 t274 t277 t287 true l0_0 a0_1 a0_2 a0_3))))) = some r := by rw [if_pos rfl] at H; exact H
            clear H
            have H := H1
            clear H1
            replace H := Option.bind_eq_some_iff.mp H
            obtain ⟨⟨t299, t300⟩, A390, H⟩ := H
            replace H : (if t299 < 0 then (laws_FnExactBlockAt.j1 kj11 a1 t272 t273 t274 t277 t287 true l0_0 a0_1 a0_2 a0_3) else (if (t285 != t272) = true then (laws_FnExactBlockAt.j1 kj11 a1 t272 t273 t274 t277 t287 true l0_0 a0_1 a0_2 a0_3) else (if t286 = t273 then ((laws_eqIntS.f kj11 t287 t274).bind fun t301 => (if t301 = true then (laws_FnExactBlockAt.j1 kj11 a1 t272 t273 t274 t277 t287 (t290 != t277) l0_0 a0_1 a0_2 a0_3) else (laws_FnExactBlockAt.j1 kj11 a1 t272 t273 t274 t277 t287 true l0_0 a0_1 a0_2 a0_3))) else (laws_FnExactBlockAt.j1 kj11 a1 t272 t273 t274 t277 t287 true l0_0 a0_1 a0_2 a0_3)))) = some r := H
            have A39 := Aside0.mk A390
            clear A390
            have HC40 := Aside0.mk H
            clear H
            try go_wp2
            have n0_ := Aside0.mk (Kd.R_drew HO_8.out)
            have n1_ := Aside0.mk (Kd.R_drew HO_13.out)
            have n2_ := Aside0.mk (Kd.R_drew HO_285000.out)
            have n3_ := Aside0.mk (blk_drew BK264.out)
            have n4_ := Aside0.mk (blk_drew BK284.out)
            have n5_ := Aside0.mk (below_drew1 HB.out)
            clear HO_8
            clear HO_13
            clear HO_285000
            clear BK264
            clear BK284
            clear HB
            have HO_8 := n0_
            have HO_13 := n1_
            have HO_285000 := n2_
            have BK264 := n3_
            have BK284 := n4_
            have HB := n5_
            clear n0_ n1_ n2_ n3_ n4_ n5_
            refine start_ (n := 5) (S := fun w' => w'.cell? ⟨gb284, 0, none⟩ = some (.slice Ao23 t278.length co23) ∧ w'.cell? ⟨gb284, 1, none⟩ = some (.int .i64 t281) ∧ w'.cell? ⟨gb284, 2, none⟩ = some (.int .i64 t282) ∧ w'.cell? ⟨gb284, 3, none⟩ = some (.int .i64 t283) ∧ w'.cell? ⟨gb264, 0, none⟩ = some (.slice A0_0 l0_0.length c0_0) ∧ w'.cell? ⟨gb264, 1, none⟩ = some (.int .i64 a0_1) ∧ w'.cell? ⟨gb264, 2, none⟩ = some (.int .i64 a0_2) ∧ w'.cell? ⟨gb264, 3, none⟩ = some (.int .i64 a0_3)) (ds := []) #[false, false, false, false, false] (by kernel_rfl) rfl rfl ⟨(blk_cell BK284.out 0).trans rfl, (blk_cell BK284.out 1).trans rfl, (blk_cell BK284.out 2).trans rfl, (blk_cell BK284.out 3).trans rfl, (blk_cell BK264.out 0).trans rfl, (blk_cell BK264.out 1).trans rfl, (blk_cell BK264.out 2).trans rfl, (blk_cell BK264.out 3).trans rfl⟩ (fun hHeld => ?_)
            generalize wc.drew = w41 at HO_8 HO_13 HO_285000 BK264 BK284 HB hHeld ⊢
            refine take_ (i := 0) (N := some 65) (v := ?_) (a' := ?_) #[true, false, false, false, false] rfl rfl (by kernel_rfl) (fun _ _ _ h => h) (Or.inl ⟨by rfl, ?_⟩) hHeld ?_ ?_
            rotate_left
            · rintro w' ⟨s0, s1, s2, s3, s4, s5, s6, s7⟩
              go_simp
              with_reducible rfl
            rotate_left
            · simp only [Act.put, List.setIfInBounds_toArray, List.set_cons_zero, List.set_cons_succ, i64_w, i32_w]
              rfl
            refine take_ (i := 1) (N := some 66) (v := ?_) (a' := ?_) #[true, true, false, false, false] rfl rfl (by kernel_rfl) (fun _ _ _ h => h) (Or.inl ⟨by rfl, ?_⟩) hHeld ?_ ?_
            rotate_left
            · rintro w' ⟨s0, s1, s2, s3, s4, s5, s6, s7⟩
              go_simp
              with_reducible rfl
            rotate_left
            · simp only [Act.put, List.setIfInBounds_toArray, List.set_cons_zero, List.set_cons_succ, i64_w, i32_w]
              rfl
            refine one_ (i := 2) (N := some 67) #[true, true, true, false, false] rfl rfl (by kernel_rfl) (by decide) (fun K hK => ?_)
            refine goes_ Try.func14 (by kernel_rfl) rfl #[.agg #[.slice A0_0 l0_0.length c0_0, .int .i64 a0_1, .int .i64 a0_2, .int .i64 a0_3]] (by rfl) rfl rfl (by (try simp only [List.map_toArray, List.map_cons, List.map_nil]); first | done | rfl | (simp only [List.length_drop, List.length_take]; rfl)) ?_
            with_reducible refine (laws_toHeap.calls kj11 _ _ l0_0 a0_1 a0_2 a0_3 t292 t295 t296 t297 _ ?side1 ?side2 A36.out).mono ?_
            (case side1 => repeat (first | exact (Kd.C_below HR0_0.out HB.out) | (with_reducible refine Kd.C_alloc ?_ _) | (with_reducible refine Kd.C_drewN ?_ _) | (with_reducible refine Kd.C_drew ?_)))
            (case side2 => exact HC0_0.out)
            rintro e w42 ⟨v293, rfl, ho0, hb⟩
            refine ⟨_, rfl, ?_⟩
            have st_v293 : ∀ a_ m_ (w_ : World), (store a_ v293 m_).run Try.prog w_ = stored Try.prog w_ a_ v293 m_ := fun a_ m_ w_ => run_store _ w_ a_ _ m_ (by first | (obtain ⟨_, _, e_⟩ := Kd.R_slice ho0; rw [e_]; rfl) | (obtain ⟨_, _, e_⟩ := Kd.V_slice ho0; rw [e_]; rfl) | (obtain ⟨_, _, e_⟩ := Kd.R_slice (Kd.S_R ho0); rw [e_]; rfl))
            have n0_ := Aside0.mk (Kd.R_elder' (by (with_reducible repeat (first | apply Kd.R_alloc | apply Kd.R_drewN | apply Kd.R_drew)); exact HO_8.out) (Kd.R_base ho0) hb)
            have n1_ := Aside0.mk (Kd.R_elder' (by (with_reducible repeat (first | apply Kd.R_alloc | apply Kd.R_drewN | apply Kd.R_drew)); exact HO_13.out) (Kd.R_base ho0) hb)
            have n2_ := Aside0.mk (Kd.R_elder' (by (with_reducible repeat (first | apply Kd.R_alloc | apply Kd.R_drewN | apply Kd.R_drew)); exact HO_285000.out) (Kd.R_base ho0) hb)
            have n3_ := Aside0.mk (Kd.R_lower (Kd.R_new' (Kd.R_new' (Kd.R_new' ho0 (Kd.R_lt (by (with_reducible repeat (first | apply Kd.R_alloc | apply Kd.R_drewN | apply Kd.R_drew)); exact HO_8.out))) (Kd.R_lt (by (with_reducible repeat (first | apply Kd.R_alloc | apply Kd.R_drewN | apply Kd.R_drew)); exact HO_13.out))) (Kd.R_lt (by (with_reducible repeat (first | apply Kd.R_alloc | apply Kd.R_drewN | apply Kd.R_drew)); exact HO_285000.out))) (below_size (by repeat (first | (with_reducible first | exact HB.out | apply below_alloc | apply pw_below_drewN | apply below_drew1 | refine below_set ?_ GE264.out | refine below_set ?_ GE284.out) | exact HB.out))))
            have n4_ := Aside0.mk (blk_below (g := gb264) (o := .cells #[.slice A0_0 l0_0.length c0_0, .int .i64 a0_1, .int .i64 a0_2, .int .i64 a0_3] 24 (0, 0)) (by (with_reducible repeat (first | refine blk_drewN ?_ _ | refine blk_drew ?_ | refine blk_alloc ?_ _)); exact BK264.out) hb)
            have n5_ := Aside0.mk (blk_below (g := gb284) (o := .cells #[.slice Ao23 t278.length co23, .int .i64 t281, .int .i64 t282, .int .i64 t283] 27 (0, 0)) (by (with_reducible repeat (first | refine blk_drewN ?_ _ | refine blk_drew ?_ | refine blk_alloc ?_ _)); exact BK284.out) hb)
            have n6_ := Aside0.mk (below_step (by repeat (first | (with_reducible first | exact HB.out | apply below_alloc | apply pw_below_drewN | apply below_drew1 | refine below_set ?_ GE264.out | refine below_set ?_ GE284.out) | exact HB.out)) hb)
            clear HO_8
            clear HO_13
            clear HO_285000
            clear BK264
            clear BK284
            clear HB
            have HO_8 := n0_
            have HO_13 := n1_
            have HO_285000 := n2_
            have HO294 := n3_
            have BK264 := n4_
            have BK284 := n5_
            have HB := n6_
            clear n0_ n1_ n2_ n3_ n4_ n5_ n6_
            (try clear hb)
            (try clear hb2)
            (try clear hk)
            (try clear hi)
            (try clear ho0)
            obtain ⟨Ao43, co43, eo43⟩ := Kd.R_slice HO294.out
            (first | subst eo43 | (injection eo43 with f1_ f2_ f3_; have f4_ := f1_.symm; have f5_ := f3_.symm; clear f1_ f2_ f3_; subst f4_; subst f5_))
            refine hK.out _ _ ⟨(blk_cell BK284.out 0).trans rfl, (blk_cell BK284.out 1).trans rfl, (blk_cell BK284.out 2).trans rfl, (blk_cell BK284.out 3).trans rfl, (blk_cell BK264.out 0).trans rfl, (blk_cell BK264.out 1).trans rfl, (blk_cell BK264.out 2).trans rfl, (blk_cell BK264.out 3).trans rfl⟩ (fun hHeld => ?_)
            clear hK K
            refine norm_ (a' := ?_) ?_ ?_
            rotate_left
            · show Act.put _ (some 67) _ = _
              simp only [Act.put, List.setIfInBounds_toArray, List.set_cons_zero, List.set_cons_succ, i64_w, i32_w]
              rfl
            refine one_ (i := 3) (N := some 68) #[true, true, true, true, false] rfl rfl (by kernel_rfl) (by decide) (fun K hK => ?_)
            refine goes_ Try.func16 (by kernel_rfl) rfl #[.agg #[.slice Ao23 t278.length co23, .int .i64 t281, .int .i64 t282, .int .i64 t283], .agg #[.slice Ao43 t292.length co43, .int .i64 t295, .int .i64 t296, .int .i64 t297]] (by rfl) rfl rfl (by (try simp only [List.map_toArray, List.map_cons, List.map_nil]); first | done | rfl | (simp only [List.length_drop, List.length_take]; rfl)) ?_
            with_reducible refine (laws_eqHeap.calls kj11 _ _ t278 t281 t282 t283 _ _ t292 t295 t296 t297 true _ ?side1 ?side2 ?side3 ?side4 A37.out).mono ?_
            (case side1 => repeat (first | exact (Kd.R_reads' HO_285000.out).2.2 | (with_reducible refine Kd.C_alloc ?_ _) | (with_reducible refine Kd.C_drewN ?_ _) | (with_reducible refine Kd.C_drew ?_)))
            (case side2 => exact (Kd.R_reads' HO_285000.out).2.1)
            (case side3 => repeat (first | exact (Kd.R_reads' HO294.out).2.2 | (with_reducible refine Kd.C_alloc ?_ _) | (with_reducible refine Kd.C_drewN ?_ _) | (with_reducible refine Kd.C_drew ?_)))
            (case side4 => exact (Kd.R_reads' HO294.out).2.1)
            rintro e w44 ⟨rfl, hb⟩
            refine ⟨_, rfl, ?_⟩
            have n0_ := Aside0.mk (Kd.R_below (by (with_reducible repeat (first | apply Kd.R_alloc | apply Kd.R_drewN | apply Kd.R_drew)); exact HO_8.out) hb)
            have n1_ := Aside0.mk (Kd.R_below (by (with_reducible repeat (first | apply Kd.R_alloc | apply Kd.R_drewN | apply Kd.R_drew)); exact HO_13.out) hb)
            have n2_ := Aside0.mk (Kd.R_below (by (with_reducible repeat (first | apply Kd.R_alloc | apply Kd.R_drewN | apply Kd.R_drew)); exact HO_285000.out) hb)
            have n3_ := Aside0.mk (Kd.R_below (by (with_reducible repeat (first | apply Kd.R_alloc | apply Kd.R_drewN | apply Kd.R_drew)); exact HO294.out) hb)
            have n4_ := Aside0.mk (blk_below (g := gb264) (o := .cells #[.slice A0_0 l0_0.length c0_0, .int .i64 a0_1, .int .i64 a0_2, .int .i64 a0_3] 24 (0, 0)) (by (with_reducible repeat (first | refine blk_drewN ?_ _ | refine blk_drew ?_ | refine blk_alloc ?_ _)); exact BK264.out) hb)
            have n5_ := Aside0.mk (blk_below (g := gb284) (o := .cells #[.slice Ao23 t278.length co23, .int .i64 t281, .int .i64 t282, .int .i64 t283] 27 (0, 0)) (by (with_reducible repeat (first | refine blk_drewN ?_ _ | refine blk_drew ?_ | refine blk_alloc ?_ _)); exact BK284.out) hb)
            have n6_ := Aside0.mk (below_step (by repeat (first | (with_reducible first | exact HB.out | apply below_alloc | apply pw_below_drewN | apply below_drew1 | refine below_set ?_ GE264.out | refine below_set ?_ GE284.out) | exact HB.out)) hb)
            clear HO_8
            clear HO_13
            clear HO_285000
            clear HO294
            clear BK264
            clear BK284
            clear HB
            have HO_8 := n0_
            have HO_13 := n1_
            have HO_285000 := n2_
            have HO294 := n3_
            have BK264 := n4_
            have BK284 := n5_
            have HB := n6_
            clear n0_ n1_ n2_ n3_ n4_ n5_ n6_
            (try clear hb)
            (try clear hb2)
            (try clear hk)
            (try clear hi)
            refine hK.out _ _ ⟨(blk_cell BK284.out 0).trans rfl, (blk_cell BK284.out 1).trans rfl, (blk_cell BK284.out 2).trans rfl, (blk_cell BK284.out 3).trans rfl, (blk_cell BK264.out 0).trans rfl, (blk_cell BK264.out 1).trans rfl, (blk_cell BK264.out 2).trans rfl, (blk_cell BK264.out 3).trans rfl⟩ (fun hHeld => ?_)
            clear hK K
            refine norm_ (a' := ?_) ?_ ?_
            rotate_left
            · show Act.put _ (some 68) _ = _
              simp only [Act.put, List.setIfInBounds_toArray, List.set_cons_zero, List.set_cons_succ, i64_w, i32_w]
              rfl
            refine pure_ (i := 4) (N := some 69) (v := ?_) (a' := ?_) #[true, true, true, true, true] rfl rfl (by kernel_rfl) (fun _ _ _ h => h) (Or.inl ⟨by rfl, ?_⟩) ?_ ?_
            rotate_left
            · intro w'
              go_simp
              with_reducible rfl
            rotate_left
            · simp only [Act.put, List.setIfInBounds_toArray, List.set_cons_zero, List.set_cons_succ, i64_w, i32_w]
              rfl
            refine done_ (by kernel_rfl) ?_
            have hnb45 := NB284_264.out
            have hnc45 := NB264_284.out
            have hcz46_0 : w44.cell? ⟨gb284, 0, none⟩ = some (.slice Ao23 t278.length co23) := (blk_cell BK284.out 0).trans rfl
            have hcz46_1 : w44.cell? ⟨gb284, 1, none⟩ = some (.int .i64 t281) := (blk_cell BK284.out 1).trans rfl
            have hcz46_2 : w44.cell? ⟨gb284, 2, none⟩ = some (.int .i64 t282) := (blk_cell BK284.out 2).trans rfl
            have hcz46_3 : w44.cell? ⟨gb284, 3, none⟩ = some (.int .i64 t283) := (blk_cell BK284.out 3).trans rfl
            have hfz46_0 := blk_frozen BK284.out 0
            have hfz46_1 := blk_frozen BK284.out 1
            have hfz46_2 := blk_frozen BK284.out 2
            have hfz46_3 := blk_frozen BK284.out 3
            go_upto_region 14 with (first | ((with_reducible refine gate_callee (f := 20) rfl ?_); refine goesL_ (some 72) rfl rfl Try.func20 (by kernel_rfl) rfl #[.agg #[.slice Ao23 t278.length co23, .int .i64 t281, .int .i64 t282, .int .i64 t283], .int .i64 1] rfl (by (try simp only [List.map_toArray, List.map_cons, List.map_nil]); first | done | rfl | (simp only [List.length_drop, List.length_take]; rfl)) ?_; (with_reducible refine (laws_markHeap.calls kj11 (fun k_ => some k_ = (.slice Ao23 t278.length co23 : Value).ownBlock) (.slice Ao23 t278.length co23) t278 t281 t282 t283 1 t299 t300 w _ ?side1 ?side2 A39.out).mono ?_); (case side1 => repeat (first | (with_reducible first | exact HB.out | apply below_alloc | apply pw_below_drewN | apply below_drew1 | refine below_set ?_ GE264.out | refine below_set ?_ GE284.out) | exact HB.out)); (case side2 => exact Kd.R_tight rfl HO_285000.out); rintro e w47 ⟨rfl, hy0, hb, hkp⟩; refine ⟨_, rfl, ?_⟩; have n0_ := Aside0.mk (Kd.R_mono (ok' := fun k_ => some k_ ≠ (v288 : Value).ownBlock ∧ some k_ ≠ (.slice Ao23 t278.length co23 : Value).ownBlock ∧ some k_ ≠ (.slice Ao43 t292.length co43 : Value).ownBlock) (Kd.R_keptB (HO_8.out) hkp (fun k_ hk_ hs_ => (hk_.1.2) hs_)) (fun k_ hk_ => ⟨hk_.1.1.1, hk_.1.1.2, hk_.1.2⟩)); have n1_ := Aside0.mk (Kd.R_mono (ok' := fun k_ => some k_ ≠ (v275 : Value).ownBlock ∧ some k_ ≠ (.slice Ao23 t278.length co23 : Value).ownBlock ∧ some k_ ≠ (.slice Ao43 t292.length co43 : Value).ownBlock) (Kd.R_keptB (HO_13.out) hkp (fun k_ hk_ hs_ => (hk_.1.2) hs_)) (fun k_ hk_ => ⟨hk_.1.1.1, hk_.1.1.2, hk_.1.2⟩)); have n2_ := Aside0.mk (Kd.R_reok rfl hy0 (fun k_ e_ => HO_285000.out.1 k_ e_)); have n3_ := Aside0.mk (blk_kept (by (with_reducible repeat (first | refine blk_drewN ?_ _ | refine blk_drew ?_ | refine blk_alloc ?_ _)); exact BK264.out) hkp (fun hs_ => (fun e_ => (Kd.R_ne HO_285000.out BK264.out (by decide)) e_) hs_)); have n4_ := Aside0.mk (blk_kept (by (with_reducible repeat (first | refine blk_drewN ?_ _ | refine blk_drew ?_ | refine blk_alloc ?_ _)); exact BK284.out) hkp (fun hs_ => (fun e_ => (Kd.R_ne HO_285000.out BK284.out (by decide)) e_) hs_)); have n5_ := Aside0.mk (Kd.R_mono (ok' := fun k_ => some k_ ≠ (v275 : Value).ownBlock ∧ some k_ ≠ (v288 : Value).ownBlock ∧ some k_ ≠ (.slice Ao23 t278.length co23 : Value).ownBlock) (Kd.R_keptB (HO294.out) hkp (fun k_ hk_ hs_ => (hk_.2) hs_)) (fun k_ hk_ => ⟨hk_.1.1.1.2, hk_.1.1.2, hk_.1.2⟩)); have n6_ := Aside0.mk (hb); clear HO_8; clear HO_13; clear HO_285000; clear BK264; clear BK284; clear HO294; clear HB; have HO_8 := n0_; have HO_13 := n1_; have HO_285000 := n2_; have BK264 := n3_; have BK284 := n4_; have HO294 := n5_; have HB := n6_; clear n0_ n1_ n2_ n3_ n4_ n5_ n6_; (try clear hb); (try clear hkp); (try clear hy0)))
            (try simp only [Act.put, List.setIfInBounds_toArray, List.set_cons_zero, List.set_cons_succ])
            go_cut [95] (fun v95 wc => ∃ (kq : Nat) (x95_39 : Bool), v95 = .bool x95_39 ∧ Aside0 (laws_FnExactBlockAt.j1 kq a1 t272 t273 t274 t277 t287 x95_39 l0_0 a0_1 a0_2 a0_3 = some r) ∧ Aside0 (kq ≤ kj11) ∧ Aside0 (Kd.R (Kd.int .i64) 3 wc w.heap.size (fun k_ => some k_ ≠ (v288 : Value).ownBlock ∧ some k_ ≠ ((.slice Ao23 t278.length co23) : Value).ownBlock) v275 t274) ∧ Aside0 (Kd.R (Kd.int .i64) 3 wc w.heap.size (fun k_ => some k_ ≠ (v275 : Value).ownBlock ∧ some k_ ≠ ((.slice Ao23 t278.length co23) : Value).ownBlock) v288 t287) ∧ Aside0 (Kd.R (Kd.int .i64) 3 wc w.heap.size (fun k_ => some k_ ≠ (v275 : Value).ownBlock ∧ some k_ ≠ (v288 : Value).ownBlock) (.slice Ao23 t278.length co23) t300) ∧ Aside0 (wc.heap[gb264]? = some (.cells #[(.slice A0_0 l0_0.length c0_0), .int .i64 a0_1, .int .i64 a0_2, .int .i64 a0_3] 24 (0, 0))) ∧ Aside0 (wc.heap[gb284]? = some (.cells #[(.slice Ao23 t278.length co23), .int .i64 t281, .int .i64 t282, .int .i64 t283] 27 (0, 0))) ∧ Aside0 (Below w.heap.size w wc))
            case first =>
              have H := HC40.out
              clear HC40
              by_cases c48 : t299 < 0
              · rw [if_pos c48] at H
                have c48b0 : decide (t299 < 0) = true := decide_eq_true c48
                clear c48
                (first | rw [c48b0] | (simp only [i64_w, i32_w]; rw [c48b0]) | skip)
                have H' := Aside0.mk H
                clear H
                go_wp2
                go_meet
                case rel => exact ⟨_, (true), (by first | rfl | (simp; done) | (simp [*]; done)), H', ⟨by have := HJ11.out; first | omega | exact Nat.le_refl _⟩, ⟨by (with_reducible repeat (first | apply Kd.R_alloc | apply Kd.R_drewN | apply Kd.R_drew)); exact Kd.R_mono HO_8.out (fun _ hk => ⟨hk.1, hk.2.1⟩)⟩, ⟨by (with_reducible repeat (first | apply Kd.R_alloc | apply Kd.R_drewN | apply Kd.R_drew)); exact Kd.R_mono HO_13.out (fun _ hk => ⟨hk.1, hk.2.1⟩)⟩, ⟨by (with_reducible repeat (first | apply Kd.R_alloc | apply Kd.R_drewN | apply Kd.R_drew)); exact Kd.R_mono HO_285000.out (fun _ hk => ⟨hk.1.1, hk.1.2⟩)⟩, ⟨by (with_reducible repeat (first | refine blk_drewN ?_ _ | refine blk_drew ?_ | refine blk_alloc ?_ _)); exact BK264.out⟩, ⟨by (with_reducible repeat (first | refine blk_drewN ?_ _ | refine blk_drew ?_ | refine blk_alloc ?_ _)); exact BK284.out⟩, ⟨by repeat (first | (with_reducible first | exact HB.out | apply below_alloc | apply pw_below_drewN | apply below_drew1 | refine below_set ?_ GE264.out | refine below_set ?_ GE284.out) | exact HB.out)⟩⟩
              · rw [if_neg c48] at H
                have c48b0 : decide (t299 < 0) = false := decide_eq_false c48
                clear c48
                (first | rw [c48b0] | (simp only [i64_w, i32_w]; rw [c48b0]) | skip)
                by_cases c49 : (t285 != t272) = true
                · rw [if_pos c49] at H
                  have c49b0 : (t285 != t272) = true := c49
                  (try (have c49b1 : decide (t285 = t272) = false := by simpa using c49))
                  (try (have c49b2 : (t285 == t272) = false := by simpa using c49))
                  (try (have c49b3 : ¬ (t285 = t272) := by simpa using c49))
                  clear c49
                  have H' := Aside0.mk H
                  clear H
                  go_wp2
                  go_meet
                  case rel => exact ⟨_, (true), (by first | rfl | (simp; done) | (simp [*]; done)), H', ⟨by have := HJ11.out; first | omega | exact Nat.le_refl _⟩, ⟨by (with_reducible repeat (first | apply Kd.R_alloc | apply Kd.R_drewN | apply Kd.R_drew)); exact Kd.R_mono HO_8.out (fun _ hk => ⟨hk.1, hk.2.1⟩)⟩, ⟨by (with_reducible repeat (first | apply Kd.R_alloc | apply Kd.R_drewN | apply Kd.R_drew)); exact Kd.R_mono HO_13.out (fun _ hk => ⟨hk.1, hk.2.1⟩)⟩, ⟨by (with_reducible repeat (first | apply Kd.R_alloc | apply Kd.R_drewN | apply Kd.R_drew)); exact Kd.R_mono HO_285000.out (fun _ hk => ⟨hk.1.1, hk.1.2⟩)⟩, ⟨by (with_reducible repeat (first | refine blk_drewN ?_ _ | refine blk_drew ?_ | refine blk_alloc ?_ _)); exact BK264.out⟩, ⟨by (with_reducible repeat (first | refine blk_drewN ?_ _ | refine blk_drew ?_ | refine blk_alloc ?_ _)); exact BK284.out⟩, ⟨by repeat (first | (with_reducible first | exact HB.out | apply below_alloc | apply pw_below_drewN | apply below_drew1 | refine below_set ?_ GE264.out | refine below_set ?_ GE284.out) | exact HB.out)⟩⟩
                · rw [if_neg c49] at H
                  have c49b0 : (t285 != t272) = false := by simpa using c49
                  (try (have c49b1 : decide (t285 = t272) = true := by simpa using c49))
                  (try (have c49b2 : (t285 == t272) = true := by simpa using c49))
                  clear c49
                  by_cases c50 : t286 = t273
                  · rw [if_pos c50] at H
                    have c50b0 : (t286 == t273) = true := beq_iff_eq.mpr c50
                    have c50b1 : (t286 != t273) = false := bne_eq_false_iff_eq.mpr c50
                    clear c50
                    replace H := Option.bind_eq_some_iff.mp H
                    obtain ⟨t301, A510, H⟩ := H
                    replace H : (if t301 = true then (laws_FnExactBlockAt.j1 kj11 a1 t272 t273 t274 t277 t287 (t290 != t277) l0_0 a0_1 a0_2 a0_3) else (laws_FnExactBlockAt.j1 kj11 a1 t272 t273 t274 t277 t287 true l0_0 a0_1 a0_2 a0_3)) = some r := H
                    have A51 := Aside0.mk A510
                    clear A510
                    by_cases c52 : t301 = true
                    · subst c52
                      have H1 : (laws_FnExactBlockAt.j1 kj11 a1 t272 t273 t274 t277 t287 (t290 != t277) l0_0 a0_1 a0_2 a0_3) = some r := by rw [if_pos rfl] at H; exact H
                      clear H
                      have H := H1
                      clear H1
                      have H' := Aside0.mk H
                      clear H
                      obtain ⟨Ao53, co53, eo53⟩ := Kd.R_slice HO_13.out
                      subst eo53
                      obtain ⟨Ao54, co54, eo54⟩ := Kd.R_slice HO_8.out
                      subst eo54
                      go_wp2_with (first | (go_at_call 19; (with_reducible refine (laws_eqIntS.calls kj11 _ _ t287 _ _ t274 true _ ?side1 ?side2 ?side3 ?side4 A51.out).mono ?_); (case side1 => repeat (first | exact (Kd.R_reads' HO_13.out).2.2 | (with_reducible refine Kd.C_alloc ?_ _) | (with_reducible refine Kd.C_drewN ?_ _) | (with_reducible refine Kd.C_drew ?_))); (case side2 => exact (Kd.R_reads' HO_13.out).2.1); (case side3 => repeat (first | exact (Kd.R_reads' HO_8.out).2.2 | (with_reducible refine Kd.C_alloc ?_ _) | (with_reducible refine Kd.C_drewN ?_ _) | (with_reducible refine Kd.C_drew ?_))); (case side4 => exact (Kd.R_reads' HO_8.out).2.1); rintro e w' ⟨rfl, ⟨nd, rfl⟩⟩))
                      go_meet
                      case rel => exact ⟨_, ((t290 != t277)), (by first | rfl | (simp; done) | (simp [*]; done)), H', ⟨by have := HJ11.out; first | omega | exact Nat.le_refl _⟩, ⟨by (with_reducible repeat (first | apply Kd.R_alloc | apply Kd.R_drewN | apply Kd.R_drew)); exact Kd.R_mono HO_8.out (fun _ hk => ⟨hk.1, hk.2.1⟩)⟩, ⟨by (with_reducible repeat (first | apply Kd.R_alloc | apply Kd.R_drewN | apply Kd.R_drew)); exact Kd.R_mono HO_13.out (fun _ hk => ⟨hk.1, hk.2.1⟩)⟩, ⟨by (with_reducible repeat (first | apply Kd.R_alloc | apply Kd.R_drewN | apply Kd.R_drew)); exact Kd.R_mono HO_285000.out (fun _ hk => ⟨hk.1.1, hk.1.2⟩)⟩, ⟨by (with_reducible repeat (first | refine blk_drewN ?_ _ | refine blk_drew ?_ | refine blk_alloc ?_ _)); exact BK264.out⟩, ⟨by (with_reducible repeat (first | refine blk_drewN ?_ _ | refine blk_drew ?_ | refine blk_alloc ?_ _)); exact BK284.out⟩, ⟨by repeat (first | (with_reducible first | exact HB.out | apply below_alloc | apply pw_below_drewN | apply below_drew1 | refine below_set ?_ GE264.out | refine below_set ?_ GE284.out) | exact HB.out)⟩⟩
                    · replace c52 := Bool.eq_false_iff.mpr c52
                      subst c52
                      have H1 : (laws_FnExactBlockAt.j1 kj11 a1 t272 t273 t274 t277 t287 true l0_0 a0_1 a0_2 a0_3) = some r := by rw [if_neg (show ¬ (false = true) by decide)] at H; exact H
                      clear H
                      have H := H1
                      clear H1
                      have H' := Aside0.mk H
                      clear H
                      obtain ⟨Ao55, co55, eo55⟩ := Kd.R_slice HO_13.out
                      subst eo55
                      obtain ⟨Ao56, co56, eo56⟩ := Kd.R_slice HO_8.out
                      subst eo56
                      go_wp2_with (first | (go_at_call 19; (with_reducible refine (laws_eqIntS.calls kj11 _ _ t287 _ _ t274 false _ ?side1 ?side2 ?side3 ?side4 A51.out).mono ?_); (case side1 => repeat (first | exact (Kd.R_reads' HO_13.out).2.2 | (with_reducible refine Kd.C_alloc ?_ _) | (with_reducible refine Kd.C_drewN ?_ _) | (with_reducible refine Kd.C_drew ?_))); (case side2 => exact (Kd.R_reads' HO_13.out).2.1); (case side3 => repeat (first | exact (Kd.R_reads' HO_8.out).2.2 | (with_reducible refine Kd.C_alloc ?_ _) | (with_reducible refine Kd.C_drewN ?_ _) | (with_reducible refine Kd.C_drew ?_))); (case side4 => exact (Kd.R_reads' HO_8.out).2.1); rintro e w' ⟨rfl, ⟨nd, rfl⟩⟩))
                      go_meet
                      case rel => exact ⟨_, (true), (by first | rfl | (simp; done) | (simp [*]; done)), H', ⟨by have := HJ11.out; first | omega | exact Nat.le_refl _⟩, ⟨by (with_reducible repeat (first | apply Kd.R_alloc | apply Kd.R_drewN | apply Kd.R_drew)); exact Kd.R_mono HO_8.out (fun _ hk => ⟨hk.1, hk.2.1⟩)⟩, ⟨by (with_reducible repeat (first | apply Kd.R_alloc | apply Kd.R_drewN | apply Kd.R_drew)); exact Kd.R_mono HO_13.out (fun _ hk => ⟨hk.1, hk.2.1⟩)⟩, ⟨by (with_reducible repeat (first | apply Kd.R_alloc | apply Kd.R_drewN | apply Kd.R_drew)); exact Kd.R_mono HO_285000.out (fun _ hk => ⟨hk.1.1, hk.1.2⟩)⟩, ⟨by (with_reducible repeat (first | refine blk_drewN ?_ _ | refine blk_drew ?_ | refine blk_alloc ?_ _)); exact BK264.out⟩, ⟨by (with_reducible repeat (first | refine blk_drewN ?_ _ | refine blk_drew ?_ | refine blk_alloc ?_ _)); exact BK284.out⟩, ⟨by repeat (first | (with_reducible first | exact HB.out | apply below_alloc | apply pw_below_drewN | apply below_drew1 | refine below_set ?_ GE264.out | refine below_set ?_ GE284.out) | exact HB.out)⟩⟩
                  · rw [if_neg c50] at H
                    have c50b0 : (t286 == t273) = false := beq_eq_false_iff_ne.mpr c50
                    have c50b1 : (t286 != t273) = true := bne_iff_ne.mpr c50
                    have H' := Aside0.mk H
                    clear H
                    go_wp2
                    go_meet
                    case rel => exact ⟨_, (true), (by first | rfl | (simp; done) | (simp [*]; done)), H', ⟨by have := HJ11.out; first | omega | exact Nat.le_refl _⟩, ⟨by (with_reducible repeat (first | apply Kd.R_alloc | apply Kd.R_drewN | apply Kd.R_drew)); exact Kd.R_mono HO_8.out (fun _ hk => ⟨hk.1, hk.2.1⟩)⟩, ⟨by (with_reducible repeat (first | apply Kd.R_alloc | apply Kd.R_drewN | apply Kd.R_drew)); exact Kd.R_mono HO_13.out (fun _ hk => ⟨hk.1, hk.2.1⟩)⟩, ⟨by (with_reducible repeat (first | apply Kd.R_alloc | apply Kd.R_drewN | apply Kd.R_drew)); exact Kd.R_mono HO_285000.out (fun _ hk => ⟨hk.1.1, hk.1.2⟩)⟩, ⟨by (with_reducible repeat (first | refine blk_drewN ?_ _ | refine blk_drew ?_ | refine blk_alloc ?_ _)); exact BK264.out⟩, ⟨by (with_reducible repeat (first | refine blk_drewN ?_ _ | refine blk_drew ?_ | refine blk_alloc ?_ _)); exact BK284.out⟩, ⟨by repeat (first | (with_reducible first | exact HB.out | apply below_alloc | apply pw_below_drewN | apply below_drew1 | refine below_set ?_ GE264.out | refine below_set ?_ GE284.out) | exact HB.out)⟩⟩
            case rest =>
              clear HC40
              try clear c1
              try clear c2
              try clear p2
              try clear c3
              try clear c4
              try clear c4b0
              try clear c5
              try clear c12
              try clear c14
              try clear c16
              try clear c17
              try clear c18
              try clear c20
              try clear c24
              try clear c27
              try clear c27b0
              try clear c27b1
              try clear c27b2
              try clear c28
              try clear c28b0
              try clear c28b1
              try clear c30
              try clear c35
              try clear c38
              try clear c45
              try clear c48
              try clear c48b0
              try clear c49
              try clear c49b0
              try clear c49b1
              try clear c49b2
              try clear c50
              try clear c50b0
              try clear c50b1
              try clear c52
              try clear hcz14_0
              try clear hcz14_1
              try clear hcz14_2
              try clear hcz14_3
              try clear hcz16_0
              try clear hcz16_1
              try clear hcz16_2
              try clear hcz16_3
              try clear hcz20_0
              try clear hcz20_1
              try clear hcz20_2
              try clear hcz20_3
              try clear hcz25_0
              try clear hcz25_1
              try clear hcz25_2
              try clear hcz25_3
              try clear hcz46_0
              try clear hcz46_1
              try clear hcz46_2
              try clear hcz46_3
              try clear hcz6_0
              try clear hcz6_1
              try clear hcz6_2
              try clear hcz6_3
              try clear hfz14_0
              try clear hfz14_1
              try clear hfz14_2
              try clear hfz14_3
              try clear hfz16_0
              try clear hfz16_1
              try clear hfz16_2
              try clear hfz16_3
              try clear hfz20_0
              try clear hfz20_1
              try clear hfz20_2
              try clear hfz20_3
              try clear hfz25_0
              try clear hfz25_1
              try clear hfz25_2
              try clear hfz25_3
              try clear hfz46_0
              try clear hfz46_1
              try clear hfz46_2
              try clear hfz46_3
              try clear hfz6_0
              try clear hfz6_1
              try clear hfz6_2
              try clear hfz6_3
              try clear p2
              obtain ⟨kq, x95_39, rfl, HA, HJ39, HO_8, HO_13, HO_285000, BK264, BK284, HB⟩ := hcut
              have hl285000_39 := (Kd.R_reads' HO_285000.out).1
              rw [hl285000_39] at HO_285000
              (try simp only [hl285000_39])
              (try simp only [hl285000_39] at BK264)
              (try simp only [hl285000_39] at BK284)
              (try simp only [hl285000_39] at HO_8)
              (try simp only [hl285000_39] at HO_13)
              cases kq with
              | zero => exact absurd HA.out (by simp [laws_FnExactBlockAt.j1])
              | succ kj39 =>
                have H := HA.out
                clear HA
                simp only [laws_FnExactBlockAt.j1] at H
                by_cases c57 : x95_39 = true
                · subst c57
                  have H1 : (some false) = some r := by rw [if_pos rfl] at H; exact H
                  clear H
                  have H := H1
                  clear H1
                  obtain rfl := Option.some.inj H
                  go_wp2
                  go_ret
                  exact ⟨by first | rfl | (simp [errW_none, errW_some] <;> rfl) | (simp [*, errW_none, errW_some] <;> rfl), by repeat (first | (with_reducible first | exact HB.out | apply below_alloc | apply pw_below_drewN | apply below_drew1 | refine below_set ?_ GE264.out | refine below_set ?_ GE284.out) | exact HB.out)⟩
                · replace c57 := Bool.eq_false_iff.mpr c57
                  subst c57
                  have H1 : ((laws_markIntS.f kj39 t287 1).bind fun bt302 => ((laws_heldIntS.f kj39 bt302.2 1).bind fun t304 => (if t304 < 0 then (some false) else (if t304 = bt302.1 then ((laws_toHeap.f kj39 l0_0 a0_1 a0_2 a0_3).bind fun bt305 => ((impl_BlockAt.f kj39 bt305.1 bt305.2.1 bt305.2.2.1 bt305.2.2.2 a1).bind fun bt311 => (if (bt311.1 != t272) = true then (laws_FnExactBlockAt.j2 kj39 bt302.2 bt302.1 true) else (if bt311.2.1 = t273 then ((laws_eqIntS.f kj39 bt311.2.2.1 t274).bind fun t317 => (if t317 = true then (laws_FnExactBlockAt.j2 kj39 bt302.2 bt302.1 (bt311.2.2.2 != t277)) else (laws_FnExactBlockAt.j2 kj39 bt302.2 bt302.1 true))) else (laws_FnExactBlockAt.j2 kj39 bt302.2 bt302.1 true))))) else (some false))))) = some r := by rw [if_neg (show ¬ (false = true) by decide)] at H; exact H
                  clear H
                  have H := H1
                  clear H1
                  replace H := Option.bind_eq_some_iff.mp H
                  obtain ⟨⟨t302, t303⟩, A580, H⟩ := H
                  replace H : ((laws_heldIntS.f kj39 t303 1).bind fun t304 => (if t304 < 0 then (some false) else (if t304 = t302 then ((laws_toHeap.f kj39 l0_0 a0_1 a0_2 a0_3).bind fun bt305 => ((impl_BlockAt.f kj39 bt305.1 bt305.2.1 bt305.2.2.1 bt305.2.2.2 a1).bind fun bt311 => (if (bt311.1 != t272) = true then (laws_FnExactBlockAt.j2 kj39 t303 t302 true) else (if bt311.2.1 = t273 then ((laws_eqIntS.f kj39 bt311.2.2.1 t274).bind fun t317 => (if t317 = true then (laws_FnExactBlockAt.j2 kj39 t303 t302 (bt311.2.2.2 != t277)) else (laws_FnExactBlockAt.j2 kj39 t303 t302 true))) else (laws_FnExactBlockAt.j2 kj39 t303 t302 true))))) else (some false)))) = some r := H
                  have A58 := Aside0.mk A580
                  clear A580
                  replace H := Option.bind_eq_some_iff.mp H
                  obtain ⟨t304, A590, H⟩ := H
                  replace H : (if t304 < 0 then (some false) else (if t304 = t302 then ((laws_toHeap.f kj39 l0_0 a0_1 a0_2 a0_3).bind fun bt305 => ((impl_BlockAt.f kj39 bt305.1 bt305.2.1 bt305.2.2.1 bt305.2.2.2 a1).bind fun bt311 => (if (bt311.1 != t272) = true then (laws_FnExactBlockAt.j2 kj39 t303 t302 true) else (if bt311.2.1 = t273 then ((laws_eqIntS.f kj39 bt311.2.2.1 t274).bind fun t317 => (if t317 = true then (laws_FnExactBlockAt.j2 kj39 t303 t302 (bt311.2.2.2 != t277)) else (laws_FnExactBlockAt.j2 kj39 t303 t302 true))) else (laws_FnExactBlockAt.j2 kj39 t303 t302 true))))) else (some false))) = some r := H
                  have A59 := Aside0.mk A590
                  clear A590
                  by_cases c60 : t304 < 0
                  · rw [if_pos c60] at H
                    have c60b0 : decide (t304 < 0) = true := decide_eq_true c60
                    clear c60
                    obtain rfl := Option.some.inj H
                    obtain ⟨Ao61, co61, eo61⟩ := Kd.R_slice HO_13.out
                    subst eo61
                    go_wp2_with (first | ((with_reducible refine gate_callee (f := 21) rfl ?_); refine goesL_ (some 98) rfl rfl Try.func21 (by kernel_rfl) rfl #[.slice Ao61 t287.length co61, .int .i64 1] rfl (by (try simp only [List.map_toArray, List.map_cons, List.map_nil]); first | done | rfl | (simp only [List.length_drop, List.length_take]; rfl)) ?_; (with_reducible refine (laws_markIntS.calls kj39 (fun k_ => some k_ = (.slice Ao61 t287.length co61 : Value).ownBlock) (.slice Ao61 t287.length co61) t287 1 t302 t303 w _ ?side1 ?side2 A58.out).mono ?_); (case side1 => repeat (first | (with_reducible first | exact HB.out | apply below_alloc | apply pw_below_drewN | apply below_drew1 | refine below_set ?_ GE264.out | refine below_set ?_ GE284.out) | exact HB.out)); (case side2 => exact Kd.R_tight rfl HO_13.out); rintro e w62 ⟨rfl, hy0, hb, hkp⟩; refine ⟨_, rfl, ?_⟩; have n0_ := Aside0.mk (Kd.R_mono (ok' := fun k_ => some k_ ≠ (.slice Ao61 t287.length co61 : Value).ownBlock ∧ some k_ ≠ (.slice Ao23 t300.length co23 : Value).ownBlock) (Kd.R_keptB (HO_8.out) hkp (fun k_ hk_ hs_ => (hk_.1) hs_)) (fun k_ hk_ => ⟨hk_.1.1, hk_.1.2⟩)); have n1_ := Aside0.mk (Kd.R_reok rfl hy0 (fun k_ e_ => HO_13.out.1 k_ e_)); have n2_ := Aside0.mk (Kd.R_mono (ok' := fun k_ => some k_ ≠ (v275 : Value).ownBlock ∧ some k_ ≠ (.slice Ao61 t287.length co61 : Value).ownBlock) (Kd.R_keptB (HO_285000.out) hkp (fun k_ hk_ hs_ => (hk_.2) hs_)) (fun k_ hk_ => ⟨hk_.1.1, hk_.1.2⟩)); have n3_ := Aside0.mk (blk_kept (by (with_reducible repeat (first | refine blk_drewN ?_ _ | refine blk_drew ?_ | refine blk_alloc ?_ _)); exact BK264.out) hkp (fun hs_ => (fun e_ => (Kd.R_ne HO_13.out BK264.out (by decide)) e_) hs_)); have n4_ := Aside0.mk (blk_kept (by (with_reducible repeat (first | refine blk_drewN ?_ _ | refine blk_drew ?_ | refine blk_alloc ?_ _)); exact BK284.out) hkp (fun hs_ => (fun e_ => (Kd.R_ne HO_13.out BK284.out (by decide)) e_) hs_)); have n5_ := Aside0.mk (hb); clear HO_8; clear HO_13; clear HO_285000; clear BK264; clear BK284; clear HB; have HO_8 := n0_; have HO_13 := n1_; have HO_285000 := n2_; have BK264 := n3_; have BK284 := n4_; have HB := n5_; clear n0_ n1_ n2_ n3_ n4_ n5_; (try clear hb); (try clear hkp); (try clear hy0)) | ((with_reducible refine gate_callee (f := 22) rfl ?_); refine goesL_ (some 101) rfl rfl Try.func22 (by kernel_rfl) rfl #[.slice Ao61 t303.length co61, .int .i64 1] rfl (by (try simp only [List.map_toArray, List.map_cons, List.map_nil]); first | done | (rw [show t303.length = t287.length from (Kd.R_reads' HO_13.out).1.symm] <;> rfl) | rfl | (simp only [List.length_drop, List.length_take]; rfl)) ?_; (with_reducible refine (laws_heldIntS.calls kj39 _ _ t303 1 t304 _ ?side1 ?side2 A59.out).mono ?_); (case side1 => repeat (first | exact (Kd.R_reads' HO_13.out).2.2 | (with_reducible refine Kd.C_alloc ?_ _) | (with_reducible refine Kd.C_drewN ?_ _) | (with_reducible refine Kd.C_drew ?_))); (case side2 => rw [show t303.length = t287.length from (Kd.R_reads' HO_13.out).1.symm]; exact (Kd.R_reads' HO_13.out).2.1); rintro e w' ⟨rfl, ⟨nd, rfl⟩⟩; refine ⟨_, rfl, ?_⟩))
                    go_ret
                    exact ⟨by first | rfl | (simp [errW_none, errW_some] <;> rfl) | (simp [*, errW_none, errW_some] <;> rfl), by repeat (first | (with_reducible first | exact HB.out | apply below_alloc | apply pw_below_drewN | apply below_drew1 | refine below_set ?_ GE264.out | refine below_set ?_ GE284.out) | exact HB.out)⟩
                  · rw [if_neg c60] at H
                    have c60b0 : decide (t304 < 0) = false := decide_eq_false c60
                    clear c60
                    by_cases c63 : t304 = t302
                    · rw [if_pos c63] at H
                      have c63b0 : (t304 == t302) = true := beq_iff_eq.mpr c63
                      have c63b1 : (t304 != t302) = false := bne_eq_false_iff_eq.mpr c63
                      clear c63
                      replace H := Option.bind_eq_some_iff.mp H
                      obtain ⟨⟨t305, t308, t309, t310⟩, A640, H⟩ := H
                      replace H : ((impl_BlockAt.f kj39 t305 t308 t309 t310 a1).bind fun bt311 => (if (bt311.1 != t272) = true then (laws_FnExactBlockAt.j2 kj39 t303 t302 true) else (if bt311.2.1 = t273 then ((laws_eqIntS.f kj39 bt311.2.2.1 t274).bind fun t317 => (if t317 = true then (laws_FnExactBlockAt.j2 kj39 t303 t302 (bt311.2.2.2 != t277)) else (laws_FnExactBlockAt.j2 kj39 t303 t302 true))) else (laws_FnExactBlockAt.j2 kj39 t303 t302 true)))) = some r := H
                      have A64 := Aside0.mk A640
                      clear A640
                      replace H := Option.bind_eq_some_iff.mp H
                      obtain ⟨⟨t311, t312, t313, t316⟩, A650, H⟩ := H
                      replace H : (if (t311 != t272) = true then (laws_FnExactBlockAt.j2 kj39 t303 t302 true) else (if t312 = t273 then ((laws_eqIntS.f kj39 t313 t274).bind fun t317 => (if t317 = true then (laws_FnExactBlockAt.j2 kj39 t303 t302 (t316 != t277)) else (laws_FnExactBlockAt.j2 kj39 t303 t302 true))) else (laws_FnExactBlockAt.j2 kj39 t303 t302 true))) = some r := H
                      have A65 := Aside0.mk A650
                      clear A650
                      have HC66 := Aside0.mk H
                      clear H
                      obtain ⟨Ao67, co67, eo67⟩ := Kd.R_slice HO_13.out
                      subst eo67
                      go_upto_region 25 with (first | ((with_reducible refine gate_callee (f := 21) rfl ?_); refine goesL_ (some 98) rfl rfl Try.func21 (by kernel_rfl) rfl #[.slice Ao67 t287.length co67, .int .i64 1] rfl (by (try simp only [List.map_toArray, List.map_cons, List.map_nil]); first | done | rfl | (simp only [List.length_drop, List.length_take]; rfl)) ?_; (with_reducible refine (laws_markIntS.calls kj39 (fun k_ => some k_ = (.slice Ao67 t287.length co67 : Value).ownBlock) (.slice Ao67 t287.length co67) t287 1 t302 t303 w _ ?side1 ?side2 A58.out).mono ?_); (case side1 => repeat (first | (with_reducible first | exact HB.out | apply below_alloc | apply pw_below_drewN | apply below_drew1 | refine below_set ?_ GE264.out | refine below_set ?_ GE284.out) | exact HB.out)); (case side2 => exact Kd.R_tight rfl HO_13.out); rintro e w68 ⟨rfl, hy0, hb, hkp⟩; refine ⟨_, rfl, ?_⟩; have n0_ := Aside0.mk (Kd.R_mono (ok' := fun k_ => some k_ ≠ (.slice Ao67 t287.length co67 : Value).ownBlock ∧ some k_ ≠ (.slice Ao23 t300.length co23 : Value).ownBlock) (Kd.R_keptB (HO_8.out) hkp (fun k_ hk_ hs_ => (hk_.1) hs_)) (fun k_ hk_ => ⟨hk_.1.1, hk_.1.2⟩)); have n1_ := Aside0.mk (Kd.R_reok rfl hy0 (fun k_ e_ => HO_13.out.1 k_ e_)); have n2_ := Aside0.mk (Kd.R_mono (ok' := fun k_ => some k_ ≠ (v275 : Value).ownBlock ∧ some k_ ≠ (.slice Ao67 t287.length co67 : Value).ownBlock) (Kd.R_keptB (HO_285000.out) hkp (fun k_ hk_ hs_ => (hk_.2) hs_)) (fun k_ hk_ => ⟨hk_.1.1, hk_.1.2⟩)); have n3_ := Aside0.mk (blk_kept (by (with_reducible repeat (first | refine blk_drewN ?_ _ | refine blk_drew ?_ | refine blk_alloc ?_ _)); exact BK264.out) hkp (fun hs_ => (fun e_ => (Kd.R_ne HO_13.out BK264.out (by decide)) e_) hs_)); have n4_ := Aside0.mk (blk_kept (by (with_reducible repeat (first | refine blk_drewN ?_ _ | refine blk_drew ?_ | refine blk_alloc ?_ _)); exact BK284.out) hkp (fun hs_ => (fun e_ => (Kd.R_ne HO_13.out BK284.out (by decide)) e_) hs_)); have n5_ := Aside0.mk (hb); clear HO_8; clear HO_13; clear HO_285000; clear BK264; clear BK284; clear HB; have HO_8 := n0_; have HO_13 := n1_; have HO_285000 := n2_; have BK264 := n3_; have BK284 := n4_; have HB := n5_; clear n0_ n1_ n2_ n3_ n4_ n5_; (try clear hb); (try clear hkp); (try clear hy0)) | ((with_reducible refine gate_callee (f := 22) rfl ?_); refine goesL_ (some 101) rfl rfl Try.func22 (by kernel_rfl) rfl #[.slice Ao67 t303.length co67, .int .i64 1] rfl (by (try simp only [List.map_toArray, List.map_cons, List.map_nil]); first | done | (rw [show t303.length = t287.length from (Kd.R_reads' HO_13.out).1.symm] <;> rfl) | rfl | (simp only [List.length_drop, List.length_take]; rfl)) ?_; (with_reducible refine (laws_heldIntS.calls kj39 _ _ t303 1 t304 _ ?side1 ?side2 A59.out).mono ?_); (case side1 => repeat (first | exact (Kd.R_reads' HO_13.out).2.2 | (with_reducible refine Kd.C_alloc ?_ _) | (with_reducible refine Kd.C_drewN ?_ _) | (with_reducible refine Kd.C_drew ?_))); (case side2 => rw [show t303.length = t287.length from (Kd.R_reads' HO_13.out).1.symm]; exact (Kd.R_reads' HO_13.out).2.1); rintro e w' ⟨rfl, ⟨nd, rfl⟩⟩; refine ⟨_, rfl, ?_⟩; have hnb69 := NB264_284.out; have hnc69 := NB284_264.out; have hcz70_0 : w68.cell? ⟨gb264, 0, none⟩ = some (.slice A0_0 l0_0.length c0_0) := (blk_cell BK264.out 0).trans rfl; have hcz70_1 : w68.cell? ⟨gb264, 1, none⟩ = some (.int .i64 a0_1) := (blk_cell BK264.out 1).trans rfl; have hcz70_2 : w68.cell? ⟨gb264, 2, none⟩ = some (.int .i64 a0_2) := (blk_cell BK264.out 2).trans rfl; have hcz70_3 : w68.cell? ⟨gb264, 3, none⟩ = some (.int .i64 a0_3) := (blk_cell BK264.out 3).trans rfl; have hfz70_0 := blk_frozen BK264.out 0; have hfz70_1 := blk_frozen BK264.out 1; have hfz70_2 := blk_frozen BK264.out 2; have hfz70_3 := blk_frozen BK264.out 3) | ((with_reducible refine gate_callee (f := 14) rfl ?_); refine goesL_ (some 109) rfl rfl Try.func14 (by kernel_rfl) rfl #[.agg #[.slice A0_0 l0_0.length c0_0, .int .i64 a0_1, .int .i64 a0_2, .int .i64 a0_3]] rfl (by (try simp only [List.map_toArray, List.map_cons, List.map_nil]); first | done | rfl | (simp only [List.length_drop, List.length_take]; rfl)) ?_; (with_reducible refine (laws_toHeap.calls kj39 _ _ l0_0 a0_1 a0_2 a0_3 t305 t308 t309 t310 _ ?side1 ?side2 A64.out).mono ?_); (case side1 => repeat (first | exact (Kd.C_below HR0_0.out (by repeat (first | (with_reducible first | exact HB.out | apply below_alloc | apply pw_below_drewN | apply below_drew1 | refine below_set ?_ GE264.out | refine below_set ?_ GE284.out) | exact HB.out))) | (with_reducible refine Kd.C_alloc ?_ _) | (with_reducible refine Kd.C_drewN ?_ _) | (with_reducible refine Kd.C_drew ?_))); (case side2 => exact HC0_0.out); rintro e w71 ⟨v306, rfl, ho0, hb⟩; refine ⟨_, rfl, ?_⟩; have st_v306 : ∀ a_ m_ (w_ : World), (store a_ v306 m_).run Try.prog w_ = stored Try.prog w_ a_ v306 m_ := fun a_ m_ w_ => run_store _ w_ a_ _ m_ (by first | (obtain ⟨_, _, e_⟩ := Kd.R_slice ho0; rw [e_]; rfl) | (obtain ⟨_, _, e_⟩ := Kd.V_slice ho0; rw [e_]; rfl) | (obtain ⟨_, _, e_⟩ := Kd.R_slice (Kd.S_R ho0); rw [e_]; rfl)); have n0_ := Aside0.mk (Kd.R_elder' (by (with_reducible repeat (first | apply Kd.R_alloc | apply Kd.R_drewN | apply Kd.R_drew)); exact HO_8.out) (Kd.R_base ho0) hb); have n1_ := Aside0.mk (Kd.R_elder' (by (with_reducible repeat (first | apply Kd.R_alloc | apply Kd.R_drewN | apply Kd.R_drew)); exact HO_13.out) (Kd.R_base ho0) hb); have n2_ := Aside0.mk (Kd.R_elder' (by (with_reducible repeat (first | apply Kd.R_alloc | apply Kd.R_drewN | apply Kd.R_drew)); exact HO_285000.out) (Kd.R_base ho0) hb); have n3_ := Aside0.mk (Kd.R_lower (Kd.R_new' (Kd.R_new' (Kd.R_new' ho0 (Kd.R_lt (by (with_reducible repeat (first | apply Kd.R_alloc | apply Kd.R_drewN | apply Kd.R_drew)); exact HO_8.out))) (Kd.R_lt (by (with_reducible repeat (first | apply Kd.R_alloc | apply Kd.R_drewN | apply Kd.R_drew)); exact HO_13.out))) (Kd.R_lt (by (with_reducible repeat (first | apply Kd.R_alloc | apply Kd.R_drewN | apply Kd.R_drew)); exact HO_285000.out))) (below_size (by repeat (first | (with_reducible first | exact HB.out | apply below_alloc | apply pw_below_drewN | apply below_drew1 | refine below_set ?_ GE264.out | refine below_set ?_ GE284.out) | exact HB.out)))); have n4_ := Aside0.mk (blk_below (g := gb264) (o := .cells #[.slice A0_0 l0_0.length c0_0, .int .i64 a0_1, .int .i64 a0_2, .int .i64 a0_3] 24 (0, 0)) (by (with_reducible repeat (first | refine blk_drewN ?_ _ | refine blk_drew ?_ | refine blk_alloc ?_ _)); exact BK264.out) hb); have n5_ := Aside0.mk (blk_below (g := gb284) (o := .cells #[.slice Ao23 t300.length co23, .int .i64 t281, .int .i64 t282, .int .i64 t283] 27 (0, 0)) (by (with_reducible repeat (first | refine blk_drewN ?_ _ | refine blk_drew ?_ | refine blk_alloc ?_ _)); exact BK284.out) hb); have n6_ := Aside0.mk (below_step (by repeat (first | (with_reducible first | exact HB.out | apply below_alloc | apply pw_below_drewN | apply below_drew1 | refine below_set ?_ GE264.out | refine below_set ?_ GE284.out) | exact HB.out)) hb); clear HO_8; clear HO_13; clear HO_285000; clear BK264; clear BK284; clear HB; have HO_8 := n0_; have HO_13 := n1_; have HO_285000 := n2_; have HO307 := n3_; have BK264 := n4_; have BK284 := n5_; have HB := n6_; clear n0_ n1_ n2_ n3_ n4_ n5_ n6_; (try clear hb); (try clear hb2); (try clear hk); (try clear hi); (try clear ho0); obtain ⟨Ao72, co72, eo72⟩ := Kd.R_slice HO307.out; subst eo72) | ((with_reducible refine gate_callee (f := 18) rfl ?_); refine goesL_ (some 111) rfl rfl Try.func18 (by kernel_rfl) rfl #[.agg #[.slice Ao72 t305.length co72, .int .i64 t308, .int .i64 t309, .int .i64 t310], .int .i64 a1] rfl (by (try simp only [List.map_toArray, List.map_cons, List.map_nil]); first | done | rfl | (simp only [List.length_drop, List.length_take]; rfl)) ?_; (with_reducible refine (impl_BlockAt.calls kj39 _ _ t305 t308 t309 t310 a1 t311 t312 t313 t316 _ ?side1 ?side2 A65.out).mono ?_); (case side1 => repeat (first | exact (Kd.R_reads' HO307.out).2.2 | (with_reducible refine Kd.C_alloc ?_ _) | (with_reducible refine Kd.C_drewN ?_ _) | (with_reducible refine Kd.C_drew ?_))); (case side2 => exact (Kd.R_reads' HO307.out).2.1); rintro e w73 ⟨v314, rfl, ho0, hb⟩; refine ⟨_, rfl, ?_⟩; have n0_ := Aside0.mk (Kd.R_elder' (by (with_reducible repeat (first | apply Kd.R_alloc | apply Kd.R_drewN | apply Kd.R_drew)); exact HO_8.out) (Kd.R_base ho0) hb); have n1_ := Aside0.mk (Kd.R_elder' (by (with_reducible repeat (first | apply Kd.R_alloc | apply Kd.R_drewN | apply Kd.R_drew)); exact HO_13.out) (Kd.R_base ho0) hb); have n2_ := Aside0.mk (Kd.R_elder' (by (with_reducible repeat (first | apply Kd.R_alloc | apply Kd.R_drewN | apply Kd.R_drew)); exact HO_285000.out) (Kd.R_base ho0) hb); have n3_ := Aside0.mk (Kd.R_elder' (by (with_reducible repeat (first | apply Kd.R_alloc | apply Kd.R_drewN | apply Kd.R_drew)); exact HO307.out) (Kd.R_base ho0) hb); have n4_ := Aside0.mk (Kd.R_lower (Kd.R_new' (Kd.R_new' (Kd.R_new' (Kd.R_new' ho0 (Kd.R_lt (by (with_reducible repeat (first | apply Kd.R_alloc | apply Kd.R_drewN | apply Kd.R_drew)); exact HO_8.out))) (Kd.R_lt (by (with_reducible repeat (first | apply Kd.R_alloc | apply Kd.R_drewN | apply Kd.R_drew)); exact HO_13.out))) (Kd.R_lt (by (with_reducible repeat (first | apply Kd.R_alloc | apply Kd.R_drewN | apply Kd.R_drew)); exact HO_285000.out))) (Kd.R_lt (by (with_reducible repeat (first | apply Kd.R_alloc | apply Kd.R_drewN | apply Kd.R_drew)); exact HO307.out))) (below_size (by repeat (first | (with_reducible first | exact HB.out | apply below_alloc | apply pw_below_drewN | apply below_drew1 | refine below_set ?_ GE264.out | refine below_set ?_ GE284.out) | exact HB.out)))); have n5_ := Aside0.mk (blk_below (g := gb264) (o := .cells #[.slice A0_0 l0_0.length c0_0, .int .i64 a0_1, .int .i64 a0_2, .int .i64 a0_3] 24 (0, 0)) (by (with_reducible repeat (first | refine blk_drewN ?_ _ | refine blk_drew ?_ | refine blk_alloc ?_ _)); exact BK264.out) hb); have n6_ := Aside0.mk (blk_below (g := gb284) (o := .cells #[.slice Ao23 t300.length co23, .int .i64 t281, .int .i64 t282, .int .i64 t283] 27 (0, 0)) (by (with_reducible repeat (first | refine blk_drewN ?_ _ | refine blk_drew ?_ | refine blk_alloc ?_ _)); exact BK284.out) hb); have n7_ := Aside0.mk (below_step (by repeat (first | (with_reducible first | exact HB.out | apply below_alloc | apply pw_below_drewN | apply below_drew1 | refine below_set ?_ GE264.out | refine below_set ?_ GE284.out) | exact HB.out)) hb); clear HO_8; clear HO_13; clear HO_285000; clear HO307; clear BK264; clear BK284; clear HB; have HO_8 := n0_; have HO_13 := n1_; have HO_285000 := n2_; have HO307 := n3_; have HO315 := n4_; have BK264 := n5_; have BK284 := n6_; have HB := n7_; clear n0_ n1_ n2_ n3_ n4_ n5_ n6_ n7_; (try clear hb); (try clear hb2); (try clear hk); (try clear hi); (try clear ho0)))
                      (try simp only [Act.put, List.setIfInBounds_toArray, List.set_cons_zero, List.set_cons_succ])
                      go_cut [134] (fun v134 wc => ∃ (kq : Nat) (x134_65 : Bool), v134 = .bool x134_65 ∧ Aside0 (laws_FnExactBlockAt.j2 kq t303 t302 x134_65 = some r) ∧ Aside0 (kq ≤ kj39) ∧ Aside0 (Kd.R (Kd.int .i64) 3 wc w.heap.size (fun k_ => some k_ ≠ ((.slice Ao23 t300.length co23) : Value).ownBlock) (.slice Ao67 t287.length co67) t303) ∧ Aside0 (Kd.R (Kd.int .i64) 3 wc w.heap.size (fun k_ => some k_ ≠ ((.slice Ao67 t287.length co67) : Value).ownBlock) (.slice Ao23 t300.length co23) t300) ∧ Aside0 (wc.heap[gb264]? = some (.cells #[(.slice A0_0 l0_0.length c0_0), .int .i64 a0_1, .int .i64 a0_2, .int .i64 a0_3] 24 (0, 0))) ∧ Aside0 (wc.heap[gb284]? = some (.cells #[(.slice Ao23 t300.length co23), .int .i64 t281, .int .i64 t282, .int .i64 t283] 27 (0, 0))) ∧ Aside0 (Below w.heap.size w wc))
                      case first =>
                        have H := HC66.out
                        clear HC66
                        by_cases c74 : (t311 != t272) = true
                        · rw [if_pos c74] at H
                          have c74b0 : (t311 != t272) = true := c74
                          (try (have c74b1 : decide (t311 = t272) = false := by simpa using c74))
                          (try (have c74b2 : (t311 == t272) = false := by simpa using c74))
                          (try (have c74b3 : ¬ (t311 = t272) := by simpa using c74))
                          clear c74
                          (first | rw [c74b0] | (simp only [i64_w, i32_w]; rw [c74b0]) | skip)
                          have H' := Aside0.mk H
                          clear H
                          go_wp2
                          go_meet
                          case rel => exact ⟨_, (true), (by first | rfl | (simp; done) | (simp [*]; done)), H', ⟨by have := HJ11.out; have := HJ39.out; first | omega | exact Nat.le_refl _⟩, ⟨by (try simp only [hl285000_39]); (with_reducible repeat (first | apply Kd.R_alloc | apply Kd.R_drewN | apply Kd.R_drew)); exact Kd.R_mono HO_13.out (fun _ hk => hk.1.1.2)⟩, ⟨by (try simp only [hl285000_39]); (with_reducible repeat (first | apply Kd.R_alloc | apply Kd.R_drewN | apply Kd.R_drew)); exact Kd.R_mono HO_285000.out (fun _ hk => hk.1.1.2)⟩, ⟨by (try simp only [hl285000_39]); (with_reducible repeat (first | refine blk_drewN ?_ _ | refine blk_drew ?_ | refine blk_alloc ?_ _)); exact BK264.out⟩, ⟨by (try simp only [hl285000_39]); (with_reducible repeat (first | refine blk_drewN ?_ _ | refine blk_drew ?_ | refine blk_alloc ?_ _)); exact BK284.out⟩, ⟨by repeat (first | (with_reducible first | exact HB.out | apply below_alloc | apply pw_below_drewN | apply below_drew1 | refine below_set ?_ GE264.out | refine below_set ?_ GE284.out) | exact HB.out)⟩⟩
                        · rw [if_neg c74] at H
                          have c74b0 : (t311 != t272) = false := by simpa using c74
                          (try (have c74b1 : decide (t311 = t272) = true := by simpa using c74))
                          (try (have c74b2 : (t311 == t272) = true := by simpa using c74))
                          clear c74
                          (first | rw [c74b0] | (simp only [i64_w, i32_w]; rw [c74b0]) | skip)
                          by_cases c75 : t312 = t273
                          · rw [if_pos c75] at H
                            have c75b0 : (t312 == t273) = true := beq_iff_eq.mpr c75
                            have c75b1 : (t312 != t273) = false := bne_eq_false_iff_eq.mpr c75
                            clear c75
                            replace H := Option.bind_eq_some_iff.mp H
                            obtain ⟨t317, A760, H⟩ := H
                            replace H : (if t317 = true then (laws_FnExactBlockAt.j2 kj39 t303 t302 (t316 != t277)) else (laws_FnExactBlockAt.j2 kj39 t303 t302 true)) = some r := H
                            have A76 := Aside0.mk A760
                            clear A760
                            by_cases c77 : t317 = true
                            · subst c77
                              have H1 : (laws_FnExactBlockAt.j2 kj39 t303 t302 (t316 != t277)) = some r := by rw [if_pos rfl] at H; exact H
                              clear H
                              have H := H1
                              clear H1
                              have H' := Aside0.mk H
                              clear H
                              obtain ⟨Ao78, co78, eo78⟩ := Kd.R_slice HO315.out
                              subst eo78
                              obtain ⟨Ao79, co79, eo79⟩ := Kd.R_slice HO_8.out
                              subst eo79
                              go_wp2_with (first | (go_at_call 19; (with_reducible refine (laws_eqIntS.calls kj39 _ _ t313 _ _ t274 true _ ?side1 ?side2 ?side3 ?side4 A76.out).mono ?_); (case side1 => repeat (first | exact (Kd.R_reads' HO315.out).2.2 | (with_reducible refine Kd.C_alloc ?_ _) | (with_reducible refine Kd.C_drewN ?_ _) | (with_reducible refine Kd.C_drew ?_))); (case side2 => exact (Kd.R_reads' HO315.out).2.1); (case side3 => repeat (first | exact (Kd.R_reads' HO_8.out).2.2 | (with_reducible refine Kd.C_alloc ?_ _) | (with_reducible refine Kd.C_drewN ?_ _) | (with_reducible refine Kd.C_drew ?_))); (case side4 => exact (Kd.R_reads' HO_8.out).2.1); rintro e w' ⟨rfl, ⟨nd, rfl⟩⟩))
                              go_meet
                              case rel => exact ⟨_, ((t316 != t277)), (by first | rfl | (simp; done) | (simp [*]; done)), H', ⟨by have := HJ11.out; have := HJ39.out; first | omega | exact Nat.le_refl _⟩, ⟨by (try simp only [hl285000_39]); (with_reducible repeat (first | apply Kd.R_alloc | apply Kd.R_drewN | apply Kd.R_drew)); exact Kd.R_mono HO_13.out (fun _ hk => hk.1.1.2)⟩, ⟨by (try simp only [hl285000_39]); (with_reducible repeat (first | apply Kd.R_alloc | apply Kd.R_drewN | apply Kd.R_drew)); exact Kd.R_mono HO_285000.out (fun _ hk => hk.1.1.2)⟩, ⟨by (try simp only [hl285000_39]); (with_reducible repeat (first | refine blk_drewN ?_ _ | refine blk_drew ?_ | refine blk_alloc ?_ _)); exact BK264.out⟩, ⟨by (try simp only [hl285000_39]); (with_reducible repeat (first | refine blk_drewN ?_ _ | refine blk_drew ?_ | refine blk_alloc ?_ _)); exact BK284.out⟩, ⟨by repeat (first | (with_reducible first | exact HB.out | apply below_alloc | apply pw_below_drewN | apply below_drew1 | refine below_set ?_ GE264.out | refine below_set ?_ GE284.out) | exact HB.out)⟩⟩
                            · replace c77 := Bool.eq_false_iff.mpr c77
                              subst c77
                              have H1 : (laws_FnExactBlockAt.j2 kj39 t303 t302 true) = some r := by rw [if_neg (show ¬ (false = true) by decide)] at H; exact H
                              clear H
                              have H := H1
                              clear H1
                              have H' := Aside0.mk H
                              clear H
                              obtain ⟨Ao80, co80, eo80⟩ := Kd.R_slice HO315.out
                              subst eo80
                              obtain ⟨Ao81, co81, eo81⟩ := Kd.R_slice HO_8.out
                              subst eo81
                              go_wp2_with (first | (go_at_call 19; (with_reducible refine (laws_eqIntS.calls kj39 _ _ t313 _ _ t274 false _ ?side1 ?side2 ?side3 ?side4 A76.out).mono ?_); (case side1 => repeat (first | exact (Kd.R_reads' HO315.out).2.2 | (with_reducible refine Kd.C_alloc ?_ _) | (with_reducible refine Kd.C_drewN ?_ _) | (with_reducible refine Kd.C_drew ?_))); (case side2 => exact (Kd.R_reads' HO315.out).2.1); (case side3 => repeat (first | exact (Kd.R_reads' HO_8.out).2.2 | (with_reducible refine Kd.C_alloc ?_ _) | (with_reducible refine Kd.C_drewN ?_ _) | (with_reducible refine Kd.C_drew ?_))); (case side4 => exact (Kd.R_reads' HO_8.out).2.1); rintro e w' ⟨rfl, ⟨nd, rfl⟩⟩))
                              go_meet
                              case rel => exact ⟨_, (true), (by first | rfl | (simp; done) | (simp [*]; done)), H', ⟨by have := HJ11.out; have := HJ39.out; first | omega | exact Nat.le_refl _⟩, ⟨by (try simp only [hl285000_39]); (with_reducible repeat (first | apply Kd.R_alloc | apply Kd.R_drewN | apply Kd.R_drew)); exact Kd.R_mono HO_13.out (fun _ hk => hk.1.1.2)⟩, ⟨by (try simp only [hl285000_39]); (with_reducible repeat (first | apply Kd.R_alloc | apply Kd.R_drewN | apply Kd.R_drew)); exact Kd.R_mono HO_285000.out (fun _ hk => hk.1.1.2)⟩, ⟨by (try simp only [hl285000_39]); (with_reducible repeat (first | refine blk_drewN ?_ _ | refine blk_drew ?_ | refine blk_alloc ?_ _)); exact BK264.out⟩, ⟨by (try simp only [hl285000_39]); (with_reducible repeat (first | refine blk_drewN ?_ _ | refine blk_drew ?_ | refine blk_alloc ?_ _)); exact BK284.out⟩, ⟨by repeat (first | (with_reducible first | exact HB.out | apply below_alloc | apply pw_below_drewN | apply below_drew1 | refine below_set ?_ GE264.out | refine below_set ?_ GE284.out) | exact HB.out)⟩⟩
                          · rw [if_neg c75] at H
                            have c75b0 : (t312 == t273) = false := beq_eq_false_iff_ne.mpr c75
                            have c75b1 : (t312 != t273) = true := bne_iff_ne.mpr c75
                            have H' := Aside0.mk H
                            clear H
                            go_wp2
                            go_meet
                            case rel => exact ⟨_, (true), (by first | rfl | (simp; done) | (simp [*]; done)), H', ⟨by have := HJ11.out; have := HJ39.out; first | omega | exact Nat.le_refl _⟩, ⟨by (try simp only [hl285000_39]); (with_reducible repeat (first | apply Kd.R_alloc | apply Kd.R_drewN | apply Kd.R_drew)); exact Kd.R_mono HO_13.out (fun _ hk => hk.1.1.2)⟩, ⟨by (try simp only [hl285000_39]); (with_reducible repeat (first | apply Kd.R_alloc | apply Kd.R_drewN | apply Kd.R_drew)); exact Kd.R_mono HO_285000.out (fun _ hk => hk.1.1.2)⟩, ⟨by (try simp only [hl285000_39]); (with_reducible repeat (first | refine blk_drewN ?_ _ | refine blk_drew ?_ | refine blk_alloc ?_ _)); exact BK264.out⟩, ⟨by (try simp only [hl285000_39]); (with_reducible repeat (first | refine blk_drewN ?_ _ | refine blk_drew ?_ | refine blk_alloc ?_ _)); exact BK284.out⟩, ⟨by repeat (first | (with_reducible first | exact HB.out | apply below_alloc | apply pw_below_drewN | apply below_drew1 | refine below_set ?_ GE264.out | refine below_set ?_ GE284.out) | exact HB.out)⟩⟩
                      case rest =>
                        clear HC66
                        try clear c1
                        try clear c2
                        try clear p2
                        try clear c3
                        try clear c4
                        try clear c4b0
                        try clear c5
                        try clear c6
                        try clear c7
                        try clear c12
                        try clear c14
                        try clear c16
                        try clear c17
                        try clear c18
                        try clear c20
                        try clear c21
                        try clear c22
                        try clear c24
                        try clear c27
                        try clear c27b0
                        try clear c27b1
                        try clear c27b2
                        try clear c28
                        try clear c28b0
                        try clear c28b1
                        try clear c30
                        try clear c35
                        try clear c38
                        try clear c45
                        try clear c48
                        try clear c48b0
                        try clear c49
                        try clear c49b0
                        try clear c49b1
                        try clear c49b2
                        try clear c50
                        try clear c50b0
                        try clear c50b1
                        try clear c52
                        try clear c57
                        try clear c60
                        try clear c60b0
                        try clear c63
                        try clear c63b0
                        try clear c63b1
                        try clear c69
                        try clear c74
                        try clear c74b0
                        try clear c74b1
                        try clear c74b2
                        try clear c75
                        try clear c75b0
                        try clear c75b1
                        try clear c77
                        try clear hcz14_0
                        try clear hcz14_1
                        try clear hcz14_2
                        try clear hcz14_3
                        try clear hcz16_0
                        try clear hcz16_1
                        try clear hcz16_2
                        try clear hcz16_3
                        try clear hcz20_0
                        try clear hcz20_1
                        try clear hcz20_2
                        try clear hcz20_3
                        try clear hcz25_0
                        try clear hcz25_1
                        try clear hcz25_2
                        try clear hcz25_3
                        try clear hcz46_0
                        try clear hcz46_1
                        try clear hcz46_2
                        try clear hcz46_3
                        try clear hcz6_0
                        try clear hcz6_1
                        try clear hcz6_2
                        try clear hcz6_3
                        try clear hcz70_0
                        try clear hcz70_1
                        try clear hcz70_2
                        try clear hcz70_3
                        try clear hfz14_0
                        try clear hfz14_1
                        try clear hfz14_2
                        try clear hfz14_3
                        try clear hfz16_0
                        try clear hfz16_1
                        try clear hfz16_2
                        try clear hfz16_3
                        try clear hfz20_0
                        try clear hfz20_1
                        try clear hfz20_2
                        try clear hfz20_3
                        try clear hfz25_0
                        try clear hfz25_1
                        try clear hfz25_2
                        try clear hfz25_3
                        try clear hfz46_0
                        try clear hfz46_1
                        try clear hfz46_2
                        try clear hfz46_3
                        try clear hfz6_0
                        try clear hfz6_1
                        try clear hfz6_2
                        try clear hfz6_3
                        try clear hfz70_0
                        try clear hfz70_1
                        try clear hfz70_2
                        try clear hfz70_3
                        try clear p2
                        obtain ⟨kq, x134_65, rfl, HA, HJ65, HO_13, HO_285000, BK264, BK284, HB⟩ := hcut
                        have hl13_65 := (Kd.R_reads' HO_13.out).1
                        rw [hl13_65] at HO_13
                        (try simp only [hl13_65])
                        (try simp only [hl13_65] at BK264)
                        (try simp only [hl13_65] at BK284)
                        (try simp only [hl13_65] at HO_285000)
                        cases kq with
                        | zero => exact absurd HA.out (by simp [laws_FnExactBlockAt.j2])
                        | succ kj65 =>
                          have H := HA.out
                          clear HA
                          simp only [laws_FnExactBlockAt.j2] at H
                          by_cases c82 : x134_65 = true
                          · subst c82
                            have H1 : (some false) = some r := by rw [if_pos rfl] at H; exact H
                            clear H
                            have H := H1
                            clear H1
                            obtain rfl := Option.some.inj H
                            go_wp2
                            go_ret
                            exact ⟨by first | rfl | (simp [errW_none, errW_some] <;> rfl) | (simp [*, errW_none, errW_some] <;> rfl), by repeat (first | (with_reducible first | exact HB.out | apply below_alloc | apply pw_below_drewN | apply below_drew1 | refine below_set ?_ GE264.out | refine below_set ?_ GE284.out) | exact HB.out)⟩
                          · replace c82 := Bool.eq_false_iff.mpr c82
                            subst c82
                            have H1 : ((laws_heldIntS.f kj65 t303 1).bind fun t318 => (if t318 < 0 then (some false) else (if t318 = t302 then (some true) else (some false)))) = some r := by rw [if_neg (show ¬ (false = true) by decide)] at H; exact H
                            clear H
                            have H := H1
                            clear H1
                            replace H := Option.bind_eq_some_iff.mp H
                            obtain ⟨t318, A830, H⟩ := H
                            replace H : (if t318 < 0 then (some false) else (if t318 = t302 then (some true) else (some false))) = some r := H
                            have A83 := Aside0.mk A830
                            clear A830
                            by_cases c84 : t318 < 0
                            · rw [if_pos c84] at H
                              have c84b0 : decide (t318 < 0) = true := decide_eq_true c84
                              clear c84
                              obtain rfl := Option.some.inj H
                              go_wp2_with (first | ((with_reducible refine gate_callee (f := 22) rfl ?_); refine goesL_ (some 137) rfl rfl Try.func22 (by kernel_rfl) rfl #[.slice Ao67 t303.length co67, .int .i64 1] rfl (by (try simp only [List.map_toArray, List.map_cons, List.map_nil]); first | done | rfl | (simp only [List.length_drop, List.length_take]; rfl)) ?_; (with_reducible refine (laws_heldIntS.calls kj65 _ _ t303 1 t318 _ ?side1 ?side2 A83.out).mono ?_); (case side1 => repeat (first | exact (Kd.R_reads' HO_13.out).2.2 | (with_reducible refine Kd.C_alloc ?_ _) | (with_reducible refine Kd.C_drewN ?_ _) | (with_reducible refine Kd.C_drew ?_))); (case side2 => exact (Kd.R_reads' HO_13.out).2.1); rintro e w' ⟨rfl, ⟨nd, rfl⟩⟩; refine ⟨_, rfl, ?_⟩))
                              go_ret
                              exact ⟨by first | rfl | (simp [errW_none, errW_some] <;> rfl) | (simp [*, errW_none, errW_some] <;> rfl), by repeat (first | (with_reducible first | exact HB.out | apply below_alloc | apply pw_below_drewN | apply below_drew1 | refine below_set ?_ GE264.out | refine below_set ?_ GE284.out) | exact HB.out)⟩
                            · rw [if_neg c84] at H
                              have c84b0 : decide (t318 < 0) = false := decide_eq_false c84
                              clear c84
                              by_cases c85 : t318 = t302
                              · rw [if_pos c85] at H
                                have c85b0 : (t318 == t302) = true := beq_iff_eq.mpr c85
                                have c85b1 : (t318 != t302) = false := bne_eq_false_iff_eq.mpr c85
                                clear c85
                                obtain rfl := Option.some.inj H
                                go_wp2_with (first | ((with_reducible refine gate_callee (f := 22) rfl ?_); refine goesL_ (some 137) rfl rfl Try.func22 (by kernel_rfl) rfl #[.slice Ao67 t303.length co67, .int .i64 1] rfl (by (try simp only [List.map_toArray, List.map_cons, List.map_nil]); first | done | rfl | (simp only [List.length_drop, List.length_take]; rfl)) ?_; (with_reducible refine (laws_heldIntS.calls kj65 _ _ t303 1 t318 _ ?side1 ?side2 A83.out).mono ?_); (case side1 => repeat (first | exact (Kd.R_reads' HO_13.out).2.2 | (with_reducible refine Kd.C_alloc ?_ _) | (with_reducible refine Kd.C_drewN ?_ _) | (with_reducible refine Kd.C_drew ?_))); (case side2 => exact (Kd.R_reads' HO_13.out).2.1); rintro e w' ⟨rfl, ⟨nd, rfl⟩⟩; refine ⟨_, rfl, ?_⟩))
                                go_ret
                                exact ⟨by first | rfl | (simp [errW_none, errW_some] <;> rfl) | (simp [*, errW_none, errW_some] <;> rfl), by repeat (first | (with_reducible first | exact HB.out | apply below_alloc | apply pw_below_drewN | apply below_drew1 | refine below_set ?_ GE264.out | refine below_set ?_ GE284.out) | exact HB.out)⟩
                              · rw [if_neg c85] at H
                                have c85b0 : (t318 == t302) = false := beq_eq_false_iff_ne.mpr c85
                                have c85b1 : (t318 != t302) = true := bne_iff_ne.mpr c85
                                obtain rfl := Option.some.inj H
                                go_wp2_with (first | ((with_reducible refine gate_callee (f := 22) rfl ?_); refine goesL_ (some 137) rfl rfl Try.func22 (by kernel_rfl) rfl #[.slice Ao67 t303.length co67, .int .i64 1] rfl (by (try simp only [List.map_toArray, List.map_cons, List.map_nil]); first | done | rfl | (simp only [List.length_drop, List.length_take]; rfl)) ?_; (with_reducible refine (laws_heldIntS.calls kj65 _ _ t303 1 t318 _ ?side1 ?side2 A83.out).mono ?_); (case side1 => repeat (first | exact (Kd.R_reads' HO_13.out).2.2 | (with_reducible refine Kd.C_alloc ?_ _) | (with_reducible refine Kd.C_drewN ?_ _) | (with_reducible refine Kd.C_drew ?_))); (case side2 => exact (Kd.R_reads' HO_13.out).2.1); rintro e w' ⟨rfl, ⟨nd, rfl⟩⟩; refine ⟨_, rfl, ?_⟩))
                                go_ret
                                exact ⟨by first | rfl | (simp [errW_none, errW_some] <;> rfl) | (simp [*, errW_none, errW_some] <;> rfl), by repeat (first | (with_reducible first | exact HB.out | apply below_alloc | apply pw_below_drewN | apply below_drew1 | refine below_set ?_ GE264.out | refine below_set ?_ GE284.out) | exact HB.out)⟩
                    · rw [if_neg c63] at H
                      have c63b0 : (t304 == t302) = false := beq_eq_false_iff_ne.mpr c63
                      have c63b1 : (t304 != t302) = true := bne_iff_ne.mpr c63
                      obtain rfl := Option.some.inj H
                      obtain ⟨Ao86, co86, eo86⟩ := Kd.R_slice HO_13.out
                      subst eo86
                      go_wp2_with (first | ((with_reducible refine gate_callee (f := 21) rfl ?_); refine goesL_ (some 98) rfl rfl Try.func21 (by kernel_rfl) rfl #[.slice Ao86 t287.length co86, .int .i64 1] rfl (by (try simp only [List.map_toArray, List.map_cons, List.map_nil]); first | done | rfl | (simp only [List.length_drop, List.length_take]; rfl)) ?_; (with_reducible refine (laws_markIntS.calls kj39 (fun k_ => some k_ = (.slice Ao86 t287.length co86 : Value).ownBlock) (.slice Ao86 t287.length co86) t287 1 t302 t303 w _ ?side1 ?side2 A58.out).mono ?_); (case side1 => repeat (first | (with_reducible first | exact HB.out | apply below_alloc | apply pw_below_drewN | apply below_drew1 | refine below_set ?_ GE264.out | refine below_set ?_ GE284.out) | exact HB.out)); (case side2 => exact Kd.R_tight rfl HO_13.out); rintro e w87 ⟨rfl, hy0, hb, hkp⟩; refine ⟨_, rfl, ?_⟩; have n0_ := Aside0.mk (Kd.R_mono (ok' := fun k_ => some k_ ≠ (.slice Ao86 t287.length co86 : Value).ownBlock ∧ some k_ ≠ (.slice Ao23 t300.length co23 : Value).ownBlock) (Kd.R_keptB (HO_8.out) hkp (fun k_ hk_ hs_ => (hk_.1) hs_)) (fun k_ hk_ => ⟨hk_.1.1, hk_.1.2⟩)); have n1_ := Aside0.mk (Kd.R_reok rfl hy0 (fun k_ e_ => HO_13.out.1 k_ e_)); have n2_ := Aside0.mk (Kd.R_mono (ok' := fun k_ => some k_ ≠ (v275 : Value).ownBlock ∧ some k_ ≠ (.slice Ao86 t287.length co86 : Value).ownBlock) (Kd.R_keptB (HO_285000.out) hkp (fun k_ hk_ hs_ => (hk_.2) hs_)) (fun k_ hk_ => ⟨hk_.1.1, hk_.1.2⟩)); have n3_ := Aside0.mk (blk_kept (by (with_reducible repeat (first | refine blk_drewN ?_ _ | refine blk_drew ?_ | refine blk_alloc ?_ _)); exact BK264.out) hkp (fun hs_ => (fun e_ => (Kd.R_ne HO_13.out BK264.out (by decide)) e_) hs_)); have n4_ := Aside0.mk (blk_kept (by (with_reducible repeat (first | refine blk_drewN ?_ _ | refine blk_drew ?_ | refine blk_alloc ?_ _)); exact BK284.out) hkp (fun hs_ => (fun e_ => (Kd.R_ne HO_13.out BK284.out (by decide)) e_) hs_)); have n5_ := Aside0.mk (hb); clear HO_8; clear HO_13; clear HO_285000; clear BK264; clear BK284; clear HB; have HO_8 := n0_; have HO_13 := n1_; have HO_285000 := n2_; have BK264 := n3_; have BK284 := n4_; have HB := n5_; clear n0_ n1_ n2_ n3_ n4_ n5_; (try clear hb); (try clear hkp); (try clear hy0)) | ((with_reducible refine gate_callee (f := 22) rfl ?_); refine goesL_ (some 101) rfl rfl Try.func22 (by kernel_rfl) rfl #[.slice Ao86 t303.length co86, .int .i64 1] rfl (by (try simp only [List.map_toArray, List.map_cons, List.map_nil]); first | done | (rw [show t303.length = t287.length from (Kd.R_reads' HO_13.out).1.symm] <;> rfl) | rfl | (simp only [List.length_drop, List.length_take]; rfl)) ?_; (with_reducible refine (laws_heldIntS.calls kj39 _ _ t303 1 t304 _ ?side1 ?side2 A59.out).mono ?_); (case side1 => repeat (first | exact (Kd.R_reads' HO_13.out).2.2 | (with_reducible refine Kd.C_alloc ?_ _) | (with_reducible refine Kd.C_drewN ?_ _) | (with_reducible refine Kd.C_drew ?_))); (case side2 => rw [show t303.length = t287.length from (Kd.R_reads' HO_13.out).1.symm]; exact (Kd.R_reads' HO_13.out).2.1); rintro e w' ⟨rfl, ⟨nd, rfl⟩⟩; refine ⟨_, rfl, ?_⟩))
                      go_ret
                      exact ⟨by first | rfl | (simp [errW_none, errW_some] <;> rfl) | (simp [*, errW_none, errW_some] <;> rfl), by repeat (first | (with_reducible first | exact HB.out | apply below_alloc | apply pw_below_drewN | apply below_drew1 | refine below_set ?_ GE264.out | refine below_set ?_ GE284.out) | exact HB.out)⟩
          · replace c38 := Bool.eq_false_iff.mpr c38
            subst c38
            have H1 : (some false) = some r := by rw [if_neg (show ¬ (false = true) by decide)] at H; exact H
            clear H
            have H := H1
            clear H1
            obtain rfl := Option.some.inj H
            try go_wp2
            have n0_ := Aside0.mk (Kd.R_drew HO_8.out)
            have n1_ := Aside0.mk (Kd.R_drew HO_13.out)
            have n2_ := Aside0.mk (Kd.R_drew HO_285000.out)
            have n3_ := Aside0.mk (blk_drew BK264.out)
            have n4_ := Aside0.mk (blk_drew BK284.out)
            have n5_ := Aside0.mk (below_drew1 HB.out)
            clear HO_8
            clear HO_13
            clear HO_285000
            clear BK264
            clear BK284
            clear HB
            have HO_8 := n0_
            have HO_13 := n1_
            have HO_285000 := n2_
            have BK264 := n3_
            have BK284 := n4_
            have HB := n5_
            clear n0_ n1_ n2_ n3_ n4_ n5_
            refine start_ (n := 5) (S := fun w' => w'.cell? ⟨gb284, 0, none⟩ = some (.slice Ao23 t278.length co23) ∧ w'.cell? ⟨gb284, 1, none⟩ = some (.int .i64 t281) ∧ w'.cell? ⟨gb284, 2, none⟩ = some (.int .i64 t282) ∧ w'.cell? ⟨gb284, 3, none⟩ = some (.int .i64 t283) ∧ w'.cell? ⟨gb264, 0, none⟩ = some (.slice A0_0 l0_0.length c0_0) ∧ w'.cell? ⟨gb264, 1, none⟩ = some (.int .i64 a0_1) ∧ w'.cell? ⟨gb264, 2, none⟩ = some (.int .i64 a0_2) ∧ w'.cell? ⟨gb264, 3, none⟩ = some (.int .i64 a0_3)) (ds := []) #[false, false, false, false, false] (by kernel_rfl) rfl rfl ⟨(blk_cell BK284.out 0).trans rfl, (blk_cell BK284.out 1).trans rfl, (blk_cell BK284.out 2).trans rfl, (blk_cell BK284.out 3).trans rfl, (blk_cell BK264.out 0).trans rfl, (blk_cell BK264.out 1).trans rfl, (blk_cell BK264.out 2).trans rfl, (blk_cell BK264.out 3).trans rfl⟩ (fun hHeld => ?_)
            generalize wc.drew = w88 at HO_8 HO_13 HO_285000 BK264 BK284 HB hHeld ⊢
            refine take_ (i := 0) (N := some 65) (v := ?_) (a' := ?_) #[true, false, false, false, false] rfl rfl (by kernel_rfl) (fun _ _ _ h => h) (Or.inl ⟨by rfl, ?_⟩) hHeld ?_ ?_
            rotate_left
            · rintro w' ⟨s0, s1, s2, s3, s4, s5, s6, s7⟩
              go_simp
              with_reducible rfl
            rotate_left
            · simp only [Act.put, List.setIfInBounds_toArray, List.set_cons_zero, List.set_cons_succ, i64_w, i32_w]
              rfl
            refine take_ (i := 1) (N := some 66) (v := ?_) (a' := ?_) #[true, true, false, false, false] rfl rfl (by kernel_rfl) (fun _ _ _ h => h) (Or.inl ⟨by rfl, ?_⟩) hHeld ?_ ?_
            rotate_left
            · rintro w' ⟨s0, s1, s2, s3, s4, s5, s6, s7⟩
              go_simp
              with_reducible rfl
            rotate_left
            · simp only [Act.put, List.setIfInBounds_toArray, List.set_cons_zero, List.set_cons_succ, i64_w, i32_w]
              rfl
            refine one_ (i := 2) (N := some 67) #[true, true, true, false, false] rfl rfl (by kernel_rfl) (by decide) (fun K hK => ?_)
            refine goes_ Try.func14 (by kernel_rfl) rfl #[.agg #[.slice A0_0 l0_0.length c0_0, .int .i64 a0_1, .int .i64 a0_2, .int .i64 a0_3]] (by rfl) rfl rfl (by (try simp only [List.map_toArray, List.map_cons, List.map_nil]); first | done | rfl | (simp only [List.length_drop, List.length_take]; rfl)) ?_
            with_reducible refine (laws_toHeap.calls kj11 _ _ l0_0 a0_1 a0_2 a0_3 t292 t295 t296 t297 _ ?side1 ?side2 A36.out).mono ?_
            (case side1 => repeat (first | exact (Kd.C_below HR0_0.out HB.out) | (with_reducible refine Kd.C_alloc ?_ _) | (with_reducible refine Kd.C_drewN ?_ _) | (with_reducible refine Kd.C_drew ?_)))
            (case side2 => exact HC0_0.out)
            rintro e w89 ⟨v293, rfl, ho0, hb⟩
            refine ⟨_, rfl, ?_⟩
            have st_v293 : ∀ a_ m_ (w_ : World), (store a_ v293 m_).run Try.prog w_ = stored Try.prog w_ a_ v293 m_ := fun a_ m_ w_ => run_store _ w_ a_ _ m_ (by first | (obtain ⟨_, _, e_⟩ := Kd.R_slice ho0; rw [e_]; rfl) | (obtain ⟨_, _, e_⟩ := Kd.V_slice ho0; rw [e_]; rfl) | (obtain ⟨_, _, e_⟩ := Kd.R_slice (Kd.S_R ho0); rw [e_]; rfl))
            have n0_ := Aside0.mk (Kd.R_elder' (by (with_reducible repeat (first | apply Kd.R_alloc | apply Kd.R_drewN | apply Kd.R_drew)); exact HO_8.out) (Kd.R_base ho0) hb)
            have n1_ := Aside0.mk (Kd.R_elder' (by (with_reducible repeat (first | apply Kd.R_alloc | apply Kd.R_drewN | apply Kd.R_drew)); exact HO_13.out) (Kd.R_base ho0) hb)
            have n2_ := Aside0.mk (Kd.R_elder' (by (with_reducible repeat (first | apply Kd.R_alloc | apply Kd.R_drewN | apply Kd.R_drew)); exact HO_285000.out) (Kd.R_base ho0) hb)
            have n3_ := Aside0.mk (Kd.R_lower (Kd.R_new' (Kd.R_new' (Kd.R_new' ho0 (Kd.R_lt (by (with_reducible repeat (first | apply Kd.R_alloc | apply Kd.R_drewN | apply Kd.R_drew)); exact HO_8.out))) (Kd.R_lt (by (with_reducible repeat (first | apply Kd.R_alloc | apply Kd.R_drewN | apply Kd.R_drew)); exact HO_13.out))) (Kd.R_lt (by (with_reducible repeat (first | apply Kd.R_alloc | apply Kd.R_drewN | apply Kd.R_drew)); exact HO_285000.out))) (below_size (by repeat (first | (with_reducible first | exact HB.out | apply below_alloc | apply pw_below_drewN | apply below_drew1 | refine below_set ?_ GE264.out | refine below_set ?_ GE284.out) | exact HB.out))))
            have n4_ := Aside0.mk (blk_below (g := gb264) (o := .cells #[.slice A0_0 l0_0.length c0_0, .int .i64 a0_1, .int .i64 a0_2, .int .i64 a0_3] 24 (0, 0)) (by (with_reducible repeat (first | refine blk_drewN ?_ _ | refine blk_drew ?_ | refine blk_alloc ?_ _)); exact BK264.out) hb)
            have n5_ := Aside0.mk (blk_below (g := gb284) (o := .cells #[.slice Ao23 t278.length co23, .int .i64 t281, .int .i64 t282, .int .i64 t283] 27 (0, 0)) (by (with_reducible repeat (first | refine blk_drewN ?_ _ | refine blk_drew ?_ | refine blk_alloc ?_ _)); exact BK284.out) hb)
            have n6_ := Aside0.mk (below_step (by repeat (first | (with_reducible first | exact HB.out | apply below_alloc | apply pw_below_drewN | apply below_drew1 | refine below_set ?_ GE264.out | refine below_set ?_ GE284.out) | exact HB.out)) hb)
            clear HO_8
            clear HO_13
            clear HO_285000
            clear BK264
            clear BK284
            clear HB
            have HO_8 := n0_
            have HO_13 := n1_
            have HO_285000 := n2_
            have HO294 := n3_
            have BK264 := n4_
            have BK284 := n5_
            have HB := n6_
            clear n0_ n1_ n2_ n3_ n4_ n5_ n6_
            (try clear hb)
            (try clear hb2)
            (try clear hk)
            (try clear hi)
            (try clear ho0)
            obtain ⟨Ao90, co90, eo90⟩ := Kd.R_slice HO294.out
            (first | subst eo90 | (injection eo90 with f1_ f2_ f3_; have f4_ := f1_.symm; have f5_ := f3_.symm; clear f1_ f2_ f3_; subst f4_; subst f5_))
            refine hK.out _ _ ⟨(blk_cell BK284.out 0).trans rfl, (blk_cell BK284.out 1).trans rfl, (blk_cell BK284.out 2).trans rfl, (blk_cell BK284.out 3).trans rfl, (blk_cell BK264.out 0).trans rfl, (blk_cell BK264.out 1).trans rfl, (blk_cell BK264.out 2).trans rfl, (blk_cell BK264.out 3).trans rfl⟩ (fun hHeld => ?_)
            clear hK K
            refine norm_ (a' := ?_) ?_ ?_
            rotate_left
            · show Act.put _ (some 67) _ = _
              simp only [Act.put, List.setIfInBounds_toArray, List.set_cons_zero, List.set_cons_succ, i64_w, i32_w]
              rfl
            refine one_ (i := 3) (N := some 68) #[true, true, true, true, false] rfl rfl (by kernel_rfl) (by decide) (fun K hK => ?_)
            refine goes_ Try.func16 (by kernel_rfl) rfl #[.agg #[.slice Ao23 t278.length co23, .int .i64 t281, .int .i64 t282, .int .i64 t283], .agg #[.slice Ao90 t292.length co90, .int .i64 t295, .int .i64 t296, .int .i64 t297]] (by rfl) rfl rfl (by (try simp only [List.map_toArray, List.map_cons, List.map_nil]); first | done | rfl | (simp only [List.length_drop, List.length_take]; rfl)) ?_
            with_reducible refine (laws_eqHeap.calls kj11 _ _ t278 t281 t282 t283 _ _ t292 t295 t296 t297 false _ ?side1 ?side2 ?side3 ?side4 A37.out).mono ?_
            (case side1 => repeat (first | exact (Kd.R_reads' HO_285000.out).2.2 | (with_reducible refine Kd.C_alloc ?_ _) | (with_reducible refine Kd.C_drewN ?_ _) | (with_reducible refine Kd.C_drew ?_)))
            (case side2 => exact (Kd.R_reads' HO_285000.out).2.1)
            (case side3 => repeat (first | exact (Kd.R_reads' HO294.out).2.2 | (with_reducible refine Kd.C_alloc ?_ _) | (with_reducible refine Kd.C_drewN ?_ _) | (with_reducible refine Kd.C_drew ?_)))
            (case side4 => exact (Kd.R_reads' HO294.out).2.1)
            rintro e w91 ⟨rfl, hb⟩
            refine ⟨_, rfl, ?_⟩
            have n0_ := Aside0.mk (Kd.R_below (by (with_reducible repeat (first | apply Kd.R_alloc | apply Kd.R_drewN | apply Kd.R_drew)); exact HO_8.out) hb)
            have n1_ := Aside0.mk (Kd.R_below (by (with_reducible repeat (first | apply Kd.R_alloc | apply Kd.R_drewN | apply Kd.R_drew)); exact HO_13.out) hb)
            have n2_ := Aside0.mk (Kd.R_below (by (with_reducible repeat (first | apply Kd.R_alloc | apply Kd.R_drewN | apply Kd.R_drew)); exact HO_285000.out) hb)
            have n3_ := Aside0.mk (Kd.R_below (by (with_reducible repeat (first | apply Kd.R_alloc | apply Kd.R_drewN | apply Kd.R_drew)); exact HO294.out) hb)
            have n4_ := Aside0.mk (blk_below (g := gb264) (o := .cells #[.slice A0_0 l0_0.length c0_0, .int .i64 a0_1, .int .i64 a0_2, .int .i64 a0_3] 24 (0, 0)) (by (with_reducible repeat (first | refine blk_drewN ?_ _ | refine blk_drew ?_ | refine blk_alloc ?_ _)); exact BK264.out) hb)
            have n5_ := Aside0.mk (blk_below (g := gb284) (o := .cells #[.slice Ao23 t278.length co23, .int .i64 t281, .int .i64 t282, .int .i64 t283] 27 (0, 0)) (by (with_reducible repeat (first | refine blk_drewN ?_ _ | refine blk_drew ?_ | refine blk_alloc ?_ _)); exact BK284.out) hb)
            have n6_ := Aside0.mk (below_step (by repeat (first | (with_reducible first | exact HB.out | apply below_alloc | apply pw_below_drewN | apply below_drew1 | refine below_set ?_ GE264.out | refine below_set ?_ GE284.out) | exact HB.out)) hb)
            clear HO_8
            clear HO_13
            clear HO_285000
            clear HO294
            clear BK264
            clear BK284
            clear HB
            have HO_8 := n0_
            have HO_13 := n1_
            have HO_285000 := n2_
            have HO294 := n3_
            have BK264 := n4_
            have BK284 := n5_
            have HB := n6_
            clear n0_ n1_ n2_ n3_ n4_ n5_ n6_
            (try clear hb)
            (try clear hb2)
            (try clear hk)
            (try clear hi)
            refine hK.out _ _ ⟨(blk_cell BK284.out 0).trans rfl, (blk_cell BK284.out 1).trans rfl, (blk_cell BK284.out 2).trans rfl, (blk_cell BK284.out 3).trans rfl, (blk_cell BK264.out 0).trans rfl, (blk_cell BK264.out 1).trans rfl, (blk_cell BK264.out 2).trans rfl, (blk_cell BK264.out 3).trans rfl⟩ (fun hHeld => ?_)
            clear hK K
            refine norm_ (a' := ?_) ?_ ?_
            rotate_left
            · show Act.put _ (some 68) _ = _
              simp only [Act.put, List.setIfInBounds_toArray, List.set_cons_zero, List.set_cons_succ, i64_w, i32_w]
              rfl
            refine pure_ (i := 4) (N := some 69) (v := ?_) (a' := ?_) #[true, true, true, true, true] rfl rfl (by kernel_rfl) (fun _ _ _ h => h) (Or.inl ⟨by rfl, ?_⟩) ?_ ?_
            rotate_left
            · intro w'
              go_simp
              with_reducible rfl
            rotate_left
            · simp only [Act.put, List.setIfInBounds_toArray, List.set_cons_zero, List.set_cons_succ, i64_w, i32_w]
              rfl
            refine done_ (by kernel_rfl) ?_
            try go_wp2
            go_ret
            exact ⟨by first | rfl | (simp [errW_none, errW_some] <;> rfl) | (simp [*, errW_none, errW_some] <;> rfl), by repeat (first | (with_reducible first | exact HB.out | apply below_alloc | apply pw_below_drewN | apply below_drew1 | refine below_set ?_ GE264.out | refine below_set ?_ GE284.out) | exact HB.out)⟩

end Go.Proofs.Ytdpnebdepjdogaa.QFnExactBlockAt
