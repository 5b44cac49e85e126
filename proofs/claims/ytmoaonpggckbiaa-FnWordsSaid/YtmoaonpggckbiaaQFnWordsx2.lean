/- Go functions that the law FnWords comes to: for each the Lean function that it computes, and the proof that its call does so. No conditions beyond those that each names. -/
import Derived.Test.YtmoaonpggckbiaaQFnWordsx0
import Derived.Test.YtmoaonpggckbiaaQFnWordsx1
namespace Go.Proofs.Ytmoaonpggckbiaa.QFnWords
open Go.RowKit Go.Proofs.YtmoaonpggckbiaaW.PrintWords Go.Proofs.YtmoaonpggckbiaaW.PrintLast Go.Proofs.YtmoaonpggckbiaaW.PrintMore
attribute [local go_sem] max2_int min2_int max_two min_two max_three min_three max_four min_four   -- for this text's walks alone
set_option linter.unusedVariables false
set_option linter.unusedSimpArgs false

/-! ### spec_DrawIsRef: function 46 -/
def spec_DrawIsRef.f (k : Nat) (l0 : List Int) : Option (Int) := (spec_l1New.f k l0).bind fun bt164 => ((spec_l1PickInt.f bt164.1 bt164.2.1 bt164.2.2 (([0, 1, 2, 3, (-1), (-2), 9223372036854775807] : List Int))).bind fun bt171 => (some bt171.1))
theorem spec_DrawIsRef.mono : ∀ a0 k, LeO (spec_DrawIsRef.f k a0) (spec_DrawIsRef.f (k + 1) a0) := by
  intro a0 k
  unfold spec_DrawIsRef.f
  repeat' first
      | (with_reducible exact spec_l1New.mono _ _)
      | (with_reducible exact LeO.refl _)
      | (with_reducible exact LeO.none _)
      | (with_reducible refine LeO.ite ?_ ?_)
      | (with_reducible refine LeO.bind ?_ (fun _ => ?_))
      | exact spec_l1New.mono _ _
      | exact LeO.none _
      | refine LeO.ite ?_ ?_
      | refine LeO.bind ?_ (fun _ => ?_)
set_option maxHeartbeats 8000000 in
set_option maxRecDepth 100000 in
theorem spec_DrawIsRef.calls (k : Nat) (A0 : Option Addr) (c0 : Nat) (l0 : List Int) (r : Int) (w : World) (hr0 : Kd.C (Kd.int .u8) w A0 l0.length l0) (hc0 : l0.length ≤ c0) (h : spec_DrawIsRef.f k l0 = some r) :
    Calls Try.prog 46 #[.slice A0 l0.length c0] w fun e w' => e = .returned (.int .i64 r) ∧ Below w.heap.size w w' := by
  have HR0 := Aside0.mk hr0
  have HC0 := Aside0.mk hc0
  clear hr0 hc0
  have HB := Aside0.mk (Below.refl w.heap.size w)
  have H : ((spec_l1New.f k l0).bind fun bt164 => ((spec_l1PickInt.f bt164.1 bt164.2.1 bt164.2.2 (([0, 1, 2, 3, (-1), (-2), 9223372036854775807] : List Int))).bind fun bt171 => (some bt171.1))) = some r := h
  clear h
  replace H := Option.bind_eq_some_iff.mp H
  obtain ⟨⟨t164, t165, t166⟩, A20, H⟩ := H
  replace H : ((spec_l1PickInt.f t164 t165 t166 (([0, 1, 2, 3, (-1), (-2), 9223372036854775807] : List Int))).bind fun bt171 => (some bt171.1)) = some r := H
  have A2 := Aside0.mk A20
  clear A20
  obtain ⟨y168, hy168⟩ : ∃ y_ : List Int, y_ = (([0, 1, 2, 3, (-1), (-2), 9223372036854775807] : List Int)) := ⟨_, rfl⟩
  replace H : ((spec_l1PickInt.f t164 t165 t166 y168).bind fun bt171 => (some bt171.1)) = some r := by first | (rw [hy168]; with_reducible exact H) | (have H2_ := (Option.bind_some _ _).symm.trans H; rw [hy168]; with_reducible exact H2_) | (have H2_ := (Option.bind_some _ _).symm.trans H; with_reducible exact H2_) | with_reducible exact H | (rw [hy168]; exact H) | exact H
  have Ny168 := Aside0.mk hy168
  clear hy168
  replace H := Option.bind_eq_some_iff.mp H
  obtain ⟨⟨t171, t172, t173⟩, A30, H⟩ := H
  replace H : (some t171) = some r := H
  have A3 := Aside0.mk A30
  clear A30
  obtain rfl := Option.some.inj H
  go_enter Try.func46, Try.ntmps46
  go_wp2_with (first | ((with_reducible refine gate_callee (f := 64) rfl ?_); refine goesL_ (some 4) rfl rfl Try.func64 (by kernel_rfl) rfl #[.slice A0 l0.length c0] rfl (by (try simp only [List.map_toArray, List.map_cons, List.map_nil]); first | done | rfl | (simp only [List.length_drop, List.length_take]; rfl)) ?_; (with_reducible refine (spec_l1New.calls k _ _ l0 t164 t165 t166 w _ ?side1 ?side2 ?side3 A2.out).mono ?_); (case side1 => repeat (first | (with_reducible first | exact HB.out | apply below_alloc | apply pw_below_drewN | apply below_drew1) | exact HB.out)); (case side2 => exact HR0.out); (case side3 => exact HC0.out); rintro e w4 ⟨g167, rfl, hi, hb, hb2⟩; refine ⟨_, rfl, ?_⟩; have n0_ := Aside0.mk (hb); have n1_ := Aside0.mk (hi); clear HB; have HB := n0_; have HI167 := n1_; clear n0_ n1_; (try clear hb); (try clear hb2); (try clear hk); (try clear hi)) | ((with_reducible refine gate_dst (N := 5) rfl ?_); refine Kd.R_lit (Kd.int .i64) _ 3 ?hg (N := 5) ?hd (xs := ([0, 1, 2, 3, (-1), (-2), 9223372036854775807] : List Int)) (inner := [.int .i64 0, .int .i64 1, .int .i64 2, .int .i64 3, .int .i64 (-1), .int .i64 (-2), .int .i64 9223372036854775807]) (ok := fun _ => True) (okp := fun _ => True) ?hr ?hp (fun _ hk => hk) trivial (Below.refl _ _) (Nat.le_refl _) (by simp) ?_; (case hd => rfl); (case hg => rfl); (case hr => first | (go_simp; done) | (go_simp; rfl)); (case hp => exact (Reps.one (show Kd.M (Kd.int .i64) _ _ _ 0 [.int .i64 0] from rfl) (Reps.one (show Kd.M (Kd.int .i64) _ _ _ 1 [.int .i64 1] from rfl) (Reps.one (show Kd.M (Kd.int .i64) _ _ _ 2 [.int .i64 2] from rfl) (Reps.one (show Kd.M (Kd.int .i64) _ _ _ 3 [.int .i64 3] from rfl) (Reps.one (show Kd.M (Kd.int .i64) _ _ _ (-1) [.int .i64 (-1)] from rfl) (Reps.one (show Kd.M (Kd.int .i64) _ _ _ (-2) [.int .i64 (-2)] from rfl) (Reps.one (show Kd.M (Kd.int .i64) _ _ _ 9223372036854775807 [.int .i64 9223372036854775807] from rfl) (Reps.none _ _))))))))); intro v169 w5 ho6 hb hg_ hnew_; clear hg_ hnew_; (first | rw [← Ny168.out] at ho6 | (simp only [Int.reduceToNat] at ho6; rw [← Ny168.out] at ho6)); have n0_ := Aside0.mk (Kd.R_lower ho6 (below_size (by repeat (first | (with_reducible first | exact HB.out | apply below_alloc | apply pw_below_drewN | apply below_drew1 | refine below_set ?_ (IsS85.ge HI167.out)) | exact HB.out)))); have n1_ := Aside0.mk (IsS85.below (by repeat (first | (with_reducible first | exact HI167.out | apply IsS85.alloc | apply IsS85.drewN | apply IsS85.drew | apply IsS85.set_1 | apply IsS85.set_2) | exact HI167.out)) hb); have n2_ := Aside0.mk (below_step (by repeat (first | (with_reducible first | exact HB.out | apply below_alloc | apply pw_below_drewN | apply below_drew1 | refine below_set ?_ (IsS85.ge HI167.out)) | exact HB.out)) hb); clear HI167; clear HB; have HO170 := n0_; have HI167 := n1_; have HB := n2_; clear n0_ n1_ n2_; clear hb ho6; obtain ⟨Ao7, co7, eo7⟩ := Kd.R_slice HO170.out; subst eo7) | ((with_reducible refine gate_callee (f := 65) rfl ?_); refine goesL_ (some 6) rfl rfl Try.func65 (by kernel_rfl) rfl #[.pointer (some ⟨g167, 0, none⟩), .slice Ao7 y168.length co7] rfl (by (try simp only [List.map_toArray, List.map_cons, List.map_nil]); first | done | rfl | (simp only [List.length_drop, List.length_take]; rfl)) ?_; (with_reducible refine (spec_l1PickInt.calls g167 t164 t165 t166 _ _ y168 t171 t172 t173 w _ ?side1 ?side2 ?side3 ?side4 ?side5 A3.out).mono ?_); (case side1 => repeat (first | (with_reducible first | exact HI167.out | apply IsS85.alloc | apply IsS85.drewN | apply IsS85.drew | apply IsS85.set_1 | apply IsS85.set_2) | exact HI167.out)); (case side2 => repeat (first | (with_reducible first | exact HB.out | apply below_alloc | apply pw_below_drewN | apply below_drew1 | refine below_set ?_ (IsS85.ge HI167.out)) | exact HB.out)); (case side3 => repeat (first | exact (Kd.R_reads' HO170.out).2.2 | (with_reducible refine Kd.C_alloc ?_ _) | (with_reducible refine Kd.C_drewN ?_ _) | (with_reducible refine Kd.C_drew ?_))); (case side4 => exact (Kd.R_reads' HO170.out).2.1); (case side5 => exact far_slice (IsS85.own_ne HI167.out HO170.out (by decide))); rintro e w8 ⟨rfl, hi, hb, hk⟩; refine ⟨_, rfl, ?_⟩; have n0_ := Aside0.mk (Kd.R_mono (Kd.R_keep (IsS85.apart (show IsS85 w _ g167 t164 t165 t166 from by repeat (first | (with_reducible first | exact HI167.out | apply IsS85.alloc | apply IsS85.drewN | apply IsS85.drew | apply IsS85.set_1 | apply IsS85.set_2) | exact HI167.out)) (by (with_reducible repeat (first | apply Kd.R_alloc | apply Kd.R_drewN | apply Kd.R_drew)); exact HO170.out) (by decide)) hk (fun _ h => h.2)) (fun _ h => h.1)); have n1_ := Aside0.mk (hb); have n2_ := Aside0.mk (hi); clear HO170; clear HB; clear HI167; have HO170 := n0_; have HB := n1_; have HI167 := n2_; clear n0_ n1_ n2_; (try clear hb); (try clear hb2); (try clear hk); (try clear hi)))
  go_ret
  exact ⟨by first | rfl | (simp [errW_none, errW_some] <;> rfl) | (simp [*, errW_none, errW_some] <;> rfl), by repeat (first | (with_reducible first | exact HB.out | apply below_alloc | apply pw_below_drewN | apply below_drew1 | refine below_set ?_ (IsS85.ge HI167.out)) | exact HB.out)⟩

/-! ### laws_FnWords: function 12 -/
def laws_FnWords.j0 : Nat → Int → Int → Int → Int → Bool → Option (Bool)
  | 0, _, _, _, _, _ => none
  | k + 1, x3, x4, x5, x6, x56 => if x56 = true then (some false) else ((impl_IsRef.f x5).bind fun t190 => (if t190 = true then (some false) else ((impl_IsRef.f x6).bind fun t191 => (if t191 = true then ((impl_WordOk.f x3).bind fun t192 => (if t192 = true then ((impl_WordInt.f x5).bind fun t193 => (if t193 = x3 then (if x4 < 0 then (some true) else (if x4 > 6000 then (some true) else ((impl_WordRef.f x6).bind fun t194 => (some (t194 == x4))))) else (some false))) else (if x4 < 0 then (some true) else (if x4 > 6000 then (some true) else ((impl_WordRef.f x6).bind fun t195 => (some (t195 == x4))))))) else (some false)))))
def laws_FnWords.f (k : Nat) (l0 : List Int) : Option (Bool) := (laws_big.f l0).bind fun t174 => (if t174 = true then (some true) else ((spec_DrawIntWord.f k l0).bind fun t175 => ((spec_DrawRefWord.f k l0).bind fun t176 => ((impl_IntWord.f t175).bind fun t177 => ((impl_RefWord.f t176).bind fun t178 => ((spec_DrawWordInt.f k l0).bind fun t179 => ((spec_DrawWordRef.f k l0).bind fun t180 => ((spec_DrawIsRef.f k l0).bind fun t181 => ((spec_IntWord.f t175).bind fun t182 => (if t177 = t182 then ((spec_RefWord.f t176).bind fun t183 => (if t178 = t183 then ((impl_WordInt.f t179).bind fun t184 => ((spec_WordInt.f t179).bind fun t185 => (if t184 = t185 then ((impl_WordRef.f t180).bind fun t186 => ((spec_WordRef.f t180).bind fun t187 => (if t186 = t187 then ((impl_IsRef.f t181).bind fun t188 => ((spec_IsRef.f t181).bind fun t189 => (laws_FnWords.j0 k t175 t176 t177 t178 (t188 != t189)))) else (laws_FnWords.j0 k t175 t176 t177 t178 true)))) else (laws_FnWords.j0 k t175 t176 t177 t178 true)))) else (laws_FnWords.j0 k t175 t176 t177 t178 true))) else (laws_FnWords.j0 k t175 t176 t177 t178 true)))))))))))
theorem laws_FnWords.mono_l : ∀ k, (∀ y0 y1 y2 y3 y4, LeO (laws_FnWords.j0 k y0 y1 y2 y3 y4) (laws_FnWords.j0 (k + 1) y0 y1 y2 y3 y4))
  | 0 => fun _ _ _ _ _ r h => by simp [laws_FnWords.j0] at h
  | k + 1 => by
    have ih0 := laws_FnWords.mono_l k
    · intro y0 y1 y2 y3 y4
      unfold laws_FnWords.j0
      repeat' first
      | (with_reducible exact ih0 _ _ _ _ _)
      | (with_reducible exact spec_DrawIntWord.mono _ _)
      | (with_reducible exact spec_DrawIsRef.mono _ _)
      | (with_reducible exact spec_DrawRefWord.mono _ _)
      | (with_reducible exact spec_DrawWordInt.mono _ _)
      | (with_reducible exact spec_DrawWordRef.mono _ _)
      | (with_reducible exact LeO.refl _)
      | (with_reducible exact LeO.none _)
      | (with_reducible refine LeO.ite ?_ ?_)
      | (with_reducible refine LeO.bind ?_ (fun _ => ?_))
      | exact ih0 _ _ _ _ _
      | exact spec_DrawIntWord.mono _ _
      | exact spec_DrawIsRef.mono _ _
      | exact spec_DrawRefWord.mono _ _
      | exact spec_DrawWordInt.mono _ _
      | exact spec_DrawWordRef.mono _ _
      | exact LeO.none _
      | refine LeO.ite ?_ ?_
      | refine LeO.bind ?_ (fun _ => ?_)
theorem laws_FnWords.mono : ∀ a0 k, LeO (laws_FnWords.f k a0) (laws_FnWords.f (k + 1) a0) := by
  intro a0 k
  have ih0 := laws_FnWords.mono_l k
  unfold laws_FnWords.f
  repeat' first
      | (with_reducible exact ih0 _ _ _ _ _)
      | (with_reducible exact spec_DrawIntWord.mono _ _)
      | (with_reducible exact spec_DrawIsRef.mono _ _)
      | (with_reducible exact spec_DrawRefWord.mono _ _)
      | (with_reducible exact spec_DrawWordInt.mono _ _)
      | (with_reducible exact spec_DrawWordRef.mono _ _)
      | (with_reducible exact LeO.refl _)
      | (with_reducible exact LeO.none _)
      | (with_reducible refine LeO.ite ?_ ?_)
      | (with_reducible refine LeO.bind ?_ (fun _ => ?_))
      | exact ih0 _ _ _ _ _
      | exact spec_DrawIntWord.mono _ _
      | exact spec_DrawIsRef.mono _ _
      | exact spec_DrawRefWord.mono _ _
      | exact spec_DrawWordInt.mono _ _
      | exact spec_DrawWordRef.mono _ _
      | exact LeO.none _
      | refine LeO.ite ?_ ?_
      | refine LeO.bind ?_ (fun _ => ?_)
set_option maxHeartbeats 8000000 in
set_option maxRecDepth 100000 in
theorem laws_FnWords.calls (k : Nat) (A0 : Option Addr) (c0 : Nat) (l0 : List Int) (r : Bool) (w : World) (hr0 : Kd.C (Kd.int .u8) w A0 l0.length l0) (hc0 : l0.length ≤ c0) (h : laws_FnWords.f k l0 = some r) :
    Calls Try.prog 12 #[.slice A0 l0.length c0] w fun e w' => e = .returned (.bool r) ∧ Below w.heap.size w w' := by
  have HR0 := Aside0.mk hr0
  have HC0 := Aside0.mk hc0
  clear hr0 hc0
  have HB := Aside0.mk (Below.refl w.heap.size w)
  have H : ((laws_big.f l0).bind fun t174 => (if t174 = true then (some true) else ((spec_DrawIntWord.f k l0).bind fun t175 => ((spec_DrawRefWord.f k l0).bind fun t176 => ((impl_IntWord.f t175).bind fun t177 => ((impl_RefWord.f t176).bind fun t178 => ((spec_DrawWordInt.f k l0).bind fun t179 => ((spec_DrawWordRef.f k l0).bind fun t180 => ((spec_DrawIsRef.f k l0).bind fun t181 => ((spec_IntWord.f t175).bind fun t182 => (if t177 = t182 then ((spec_RefWord.f t176).bind fun t183 => (if t178 = t183 then ((impl_WordInt.f t179).bind fun t184 => ((spec_WordInt.f t179).bind fun t185 => (if t184 = t185 then ((impl_WordRef.f t180).bind fun t186 => ((spec_WordRef.f t180).bind fun t187 => (if t186 = t187 then ((impl_IsRef.f t181).bind fun t188 => ((spec_IsRef.f t181).bind fun t189 => (laws_FnWords.j0 k t175 t176 t177 t178 (t188 != t189)))) else (laws_FnWords.j0 k t175 t176 t177 t178 true)))) else (laws_FnWords.j0 k t175 t176 t177 t178 true)))) else (laws_FnWords.j0 k t175 t176 t177 t178 true))) else (laws_FnWords.j0 k t175 t176 t177 t178 true)))))))))))) = some r := h
  clear h
  replace H := Option.bind_eq_some_iff.mp H
  obtain ⟨t174, A20, H⟩ := H
  replace H : (if t174 = true then (some true) else ((spec_DrawIntWord.f k l0).bind fun t175 => ((spec_DrawRefWord.f k l0).bind fun t176 => ((impl_IntWord.f t175).bind fun t177 => ((impl_RefWord.f t176).bind fun t178 => ((spec_DrawWordInt.f k l0).bind fun t179 => ((spec_DrawWordRef.f k l0).bind fun t180 => ((spec_DrawIsRef.f k l0).bind fun t181 => ((spec_IntWord.f t175).bind fun t182 => (if t177 = t182 then ((spec_RefWord.f t176).bind fun t183 => (if t178 = t183 then ((impl_WordInt.f t179).bind fun t184 => ((spec_WordInt.f t179).bind fun t185 => (if t184 = t185 then ((impl_WordRef.f t180).bind fun t186 => ((spec_WordRef.f t180).bind fun t187 => (if t186 = t187 then ((impl_IsRef.f t181).bind fun t188 => ((spec_IsRef.f t181).bind fun t189 => (laws_FnWords.j0 k t175 t176 t177 t178 (t188 != t189)))) else (laws_FnWords.j0 k t175 t176 t177 t178 true)))) else (laws_FnWords.j0 k t175 t176 t177 t178 true)))) else (laws_FnWords.j0 k t175 t176 t177 t178 true))) else (laws_FnWords.j0 k t175 t176 t177 t178 true))))))))))) = some r := H
  have A2 := Aside0.mk A20
  clear A20
  by_cases c3 : t174 = true
  · subst c3
    have H1 : (some true) = some r := by rw [if_pos rfl] at H; exact H
    clear H
    have H := H1
    clear H1
    obtain rfl := Option.some.inj H
    go_enter Try.func12, Try.ntmps12
    go_wp2_with (first | ((with_reducible refine gate_callee (f := 41) rfl ?_); refine goesL_ (some 11) rfl rfl Try.func41 (by kernel_rfl) rfl #[.slice A0 l0.length c0] rfl (by (try simp only [List.map_toArray, List.map_cons, List.map_nil]); first | done | rfl | (simp only [List.length_drop, List.length_take]; rfl)) ?_; (with_reducible refine (laws_big.calls _ _ l0 true _ ?side1 ?side2 A2.out).mono ?_); (case side1 => repeat (first | exact HR0.out | (with_reducible refine Kd.C_alloc ?_ _) | (with_reducible refine Kd.C_drewN ?_ _) | (with_reducible refine Kd.C_drew ?_))); (case side2 => exact HC0.out); rintro e w' ⟨rfl, ⟨nd, rfl⟩⟩; refine ⟨_, rfl, ?_⟩))
    go_ret
    exact ⟨by first | rfl | (simp [errW_none, errW_some] <;> rfl) | (simp [*, errW_none, errW_some] <;> rfl), by repeat (first | (with_reducible first | exact HB.out | apply below_alloc | apply pw_below_drewN | apply below_drew1) | exact HB.out)⟩
  · replace c3 := Bool.eq_false_iff.mpr c3
    subst c3
    have H1 : ((spec_DrawIntWord.f k l0).bind fun t175 => ((spec_DrawRefWord.f k l0).bind fun t176 => ((impl_IntWord.f t175).bind fun t177 => ((impl_RefWord.f t176).bind fun t178 => ((spec_DrawWordInt.f k l0).bind fun t179 => ((spec_DrawWordRef.f k l0).bind fun t180 => ((spec_DrawIsRef.f k l0).bind fun t181 => ((spec_IntWord.f t175).bind fun t182 => (if t177 = t182 then ((spec_RefWord.f t176).bind fun t183 => (if t178 = t183 then ((impl_WordInt.f t179).bind fun t184 => ((spec_WordInt.f t179).bind fun t185 => (if t184 = t185 then ((impl_WordRef.f t180).bind fun t186 => ((spec_WordRef.f t180).bind fun t187 => (if t186 = t187 then ((impl_IsRef.f t181).bind fun t188 => ((spec_IsRef.f t181).bind fun t189 => (laws_FnWords.j0 k t175 t176 t177 t178 (t188 != t189)))) else (laws_FnWords.j0 k t175 t176 t177 t178 true)))) else (laws_FnWords.j0 k t175 t176 t177 t178 true)))) else (laws_FnWords.j0 k t175 t176 t177 t178 true))) else (laws_FnWords.j0 k t175 t176 t177 t178 true)))))))))) = some r := by rw [if_neg (show ¬ (false = true) by decide)] at H; exact H
    clear H
    have H := H1
    clear H1
    replace H := Option.bind_eq_some_iff.mp H
    obtain ⟨t175, A40, H⟩ := H
    replace H : ((spec_DrawRefWord.f k l0).bind fun t176 => ((impl_IntWord.f t175).bind fun t177 => ((impl_RefWord.f t176).bind fun t178 => ((spec_DrawWordInt.f k l0).bind fun t179 => ((spec_DrawWordRef.f k l0).bind fun t180 => ((spec_DrawIsRef.f k l0).bind fun t181 => ((spec_IntWord.f t175).bind fun t182 => (if t177 = t182 then ((spec_RefWord.f t176).bind fun t183 => (if t178 = t183 then ((impl_WordInt.f t179).bind fun t184 => ((spec_WordInt.f t179).bind fun t185 => (if t184 = t185 then ((impl_WordRef.f t180).bind fun t186 => ((spec_WordRef.f t180).bind fun t187 => (if t186 = t187 then ((impl_IsRef.f t181).bind fun t188 => ((spec_IsRef.f t181).bind fun t189 => (laws_FnWords.j0 k t175 t176 t177 t178 (t188 != t189)))) else (laws_FnWords.j0 k t175 t176 t177 t178 true)))) else (laws_FnWords.j0 k t175 t176 t177 t178 true)))) else (laws_FnWords.j0 k t175 t176 t177 t178 true))) else (laws_FnWords.j0 k t175 t176 t177 t178 true))))))))) = some r := H
    have A4 := Aside0.mk A40
    clear A40
    replace H := Option.bind_eq_some_iff.mp H
    obtain ⟨t176, A50, H⟩ := H
    replace H : ((impl_IntWord.f t175).bind fun t177 => ((impl_RefWord.f t176).bind fun t178 => ((spec_DrawWordInt.f k l0).bind fun t179 => ((spec_DrawWordRef.f k l0).bind fun t180 => ((spec_DrawIsRef.f k l0).bind fun t181 => ((spec_IntWord.f t175).bind fun t182 => (if t177 = t182 then ((spec_RefWord.f t176).bind fun t183 => (if t178 = t183 then ((impl_WordInt.f t179).bind fun t184 => ((spec_WordInt.f t179).bind fun t185 => (if t184 = t185 then ((impl_WordRef.f t180).bind fun t186 => ((spec_WordRef.f t180).bind fun t187 => (if t186 = t187 then ((impl_IsRef.f t181).bind fun t188 => ((spec_IsRef.f t181).bind fun t189 => (laws_FnWords.j0 k t175 t176 t177 t178 (t188 != t189)))) else (laws_FnWords.j0 k t175 t176 t177 t178 true)))) else (laws_FnWords.j0 k t175 t176 t177 t178 true)))) else (laws_FnWords.j0 k t175 t176 t177 t178 true))) else (laws_FnWords.j0 k t175 t176 t177 t178 true)))))))) = some r := H
    have A5 := Aside0.mk A50
    clear A50
    replace H := Option.bind_eq_some_iff.mp H
    obtain ⟨t177, A60, H⟩ := H
    replace H : ((impl_RefWord.f t176).bind fun t178 => ((spec_DrawWordInt.f k l0).bind fun t179 => ((spec_DrawWordRef.f k l0).bind fun t180 => ((spec_DrawIsRef.f k l0).bind fun t181 => ((spec_IntWord.f t175).bind fun t182 => (if t177 = t182 then ((spec_RefWord.f t176).bind fun t183 => (if t178 = t183 then ((impl_WordInt.f t179).bind fun t184 => ((spec_WordInt.f t179).bind fun t185 => (if t184 = t185 then ((impl_WordRef.f t180).bind fun t186 => ((spec_WordRef.f t180).bind fun t187 => (if t186 = t187 then ((impl_IsRef.f t181).bind fun t188 => ((spec_IsRef.f t181).bind fun t189 => (laws_FnWords.j0 k t175 t176 t177 t178 (t188 != t189)))) else (laws_FnWords.j0 k t175 t176 t177 t178 true)))) else (laws_FnWords.j0 k t175 t176 t177 t178 true)))) else (laws_FnWords.j0 k t175 t176 t177 t178 true))) else (laws_FnWords.j0 k t175 t176 t177 t178 true))))))) = some r := H
    have A6 := Aside0.mk A60
    clear A60
    replace H := Option.bind_eq_some_iff.mp H
    obtain ⟨t178, A70, H⟩ := H
    replace H : ((spec_DrawWordInt.f k l0).bind fun t179 => ((spec_DrawWordRef.f k l0).bind fun t180 => ((spec_DrawIsRef.f k l0).bind fun t181 => ((spec_IntWord.f t175).bind fun t182 => (if t177 = t182 then ((spec_RefWord.f t176).bind fun t183 => (if t178 = t183 then ((impl_WordInt.f t179).bind fun t184 => ((spec_WordInt.f t179).bind fun t185 => (if t184 = t185 then ((impl_WordRef.f t180).bind fun t186 => ((spec_WordRef.f t180).bind fun t187 => (if t186 = t187 then ((impl_IsRef.f t181).bind fun t188 => ((spec_IsRef.f t181).bind fun t189 => (laws_FnWords.j0 k t175 t176 t177 t178 (t188 != t189)))) else (laws_FnWords.j0 k t175 t176 t177 t178 true)))) else (laws_FnWords.j0 k t175 t176 t177 t178 true)))) else (laws_FnWords.j0 k t175 t176 t177 t178 true))) else (laws_FnWords.j0 k t175 t176 t177 t178 true)))))) = some r := H
    have A7 := Aside0.mk A70
    clear A70
    replace H := Option.bind_eq_some_iff.mp H
    obtain ⟨t179, A80, H⟩ := H
    replace H : ((spec_DrawWordRef.f k l0).bind fun t180 => ((spec_DrawIsRef.f k l0).bind fun t181 => ((spec_IntWord.f t175).bind fun t182 => (if t177 = t182 then ((spec_RefWord.f t176).bind fun t183 => (if t178 = t183 then ((impl_WordInt.f t179).bind fun t184 => ((spec_WordInt.f t179).bind fun t185 => (if t184 = t185 then ((impl_WordRef.f t180).bind fun t186 => ((spec_WordRef.f t180).bind fun t187 => (if t186 = t187 then ((impl_IsRef.f t181).bind fun t188 => ((spec_IsRef.f t181).bind fun t189 => (laws_FnWords.j0 k t175 t176 t177 t178 (t188 != t189)))) else (laws_FnWords.j0 k t175 t176 t177 t178 true)))) else (laws_FnWords.j0 k t175 t176 t177 t178 true)))) else (laws_FnWords.j0 k t175 t176 t177 t178 true))) else (laws_FnWords.j0 k t175 t176 t177 t178 true))))) = some r := H
    have A8 := Aside0.mk A80
    clear A80
    replace H := Option.bind_eq_some_iff.mp H
    obtain ⟨t180, A90, H⟩ := H
    replace H : ((spec_DrawIsRef.f k l0).bind fun t181 => ((spec_IntWord.f t175).bind fun t182 => (if t177 = t182 then ((spec_RefWord.f t176).bind fun t183 => (if t178 = t183 then ((impl_WordInt.f t179).bind fun t184 => ((spec_WordInt.f t179).bind fun t185 => (if t184 = t185 then ((impl_WordRef.f t180).bind fun t186 => ((spec_WordRef.f t180).bind fun t187 => (if t186 = t187 then ((impl_IsRef.f t181).bind fun t188 => ((spec_IsRef.f t181).bind fun t189 => (laws_FnWords.j0 k t175 t176 t177 t178 (t188 != t189)))) else (laws_FnWords.j0 k t175 t176 t177 t178 true)))) else (laws_FnWords.j0 k t175 t176 t177 t178 true)))) else (laws_FnWords.j0 k t175 t176 t177 t178 true))) else (laws_FnWords.j0 k t175 t176 t177 t178 true)))) = some r := H
    have A9 := Aside0.mk A90
    clear A90
    replace H := Option.bind_eq_some_iff.mp H
    obtain ⟨t181, A100, H⟩ := H
    replace H : ((spec_IntWord.f t175).bind fun t182 => (if t177 = t182 then ((spec_RefWord.f t176).bind fun t183 => (if t178 = t183 then ((impl_WordInt.f t179).bind fun t184 => ((spec_WordInt.f t179).bind fun t185 => (if t184 = t185 then ((impl_WordRef.f t180).bind fun t186 => ((spec_WordRef.f t180).bind fun t187 => (if t186 = t187 then ((impl_IsRef.f t181).bind fun t188 => ((spec_IsRef.f t181).bind fun t189 => (laws_FnWords.j0 k t175 t176 t177 t178 (t188 != t189)))) else (laws_FnWords.j0 k t175 t176 t177 t178 true)))) else (laws_FnWords.j0 k t175 t176 t177 t178 true)))) else (laws_FnWords.j0 k t175 t176 t177 t178 true))) else (laws_FnWords.j0 k t175 t176 t177 t178 true))) = some r := H
    have A10 := Aside0.mk A100
    clear A100
    have HC11 := Aside0.mk H
    clear H
    go_enter Try.func12, Try.ntmps12
    go_upto_region 6 with (first | ((with_reducible refine gate_callee (f := 41) rfl ?_); refine goesL_ (some 11) rfl rfl Try.func41 (by kernel_rfl) rfl #[.slice A0 l0.length c0] rfl (by (try simp only [List.map_toArray, List.map_cons, List.map_nil]); first | done | rfl | (simp only [List.length_drop, List.length_take]; rfl)) ?_; (with_reducible refine (laws_big.calls _ _ l0 false _ ?side1 ?side2 A2.out).mono ?_); (case side1 => repeat (first | exact HR0.out | (with_reducible refine Kd.C_alloc ?_ _) | (with_reducible refine Kd.C_drewN ?_ _) | (with_reducible refine Kd.C_drew ?_))); (case side2 => exact HC0.out); rintro e w' ⟨rfl, ⟨nd, rfl⟩⟩; refine ⟨_, rfl, ?_⟩) | ((with_reducible refine gate_callee (f := 42) rfl ?_); refine goesL_ (some 13) rfl rfl Try.func42 (by kernel_rfl) rfl #[.slice A0 l0.length c0] rfl (by (try simp only [List.map_toArray, List.map_cons, List.map_nil]); first | done | rfl | (simp only [List.length_drop, List.length_take]; rfl)) ?_; (with_reducible refine (spec_DrawIntWord.calls k _ _ l0 t175 _ ?side1 ?side2 A4.out).mono ?_); (case side1 => repeat (first | exact HR0.out | (with_reducible refine Kd.C_alloc ?_ _) | (with_reducible refine Kd.C_drewN ?_ _) | (with_reducible refine Kd.C_drew ?_))); (case side2 => exact HC0.out); rintro e w12 ⟨rfl, hb⟩; refine ⟨_, rfl, ?_⟩; have n0_ := Aside0.mk (below_step (by repeat (first | (with_reducible first | exact HB.out | apply below_alloc | apply pw_below_drewN | apply below_drew1) | exact HB.out)) hb); clear HB; have HB := n0_; clear n0_; (try clear hb); (try clear hb2); (try clear hk); (try clear hi)) | ((with_reducible refine gate_callee (f := 43) rfl ?_); refine goesL_ (some 15) rfl rfl Try.func43 (by kernel_rfl) rfl #[.slice A0 l0.length c0] rfl (by (try simp only [List.map_toArray, List.map_cons, List.map_nil]); first | done | rfl | (simp only [List.length_drop, List.length_take]; rfl)) ?_; (with_reducible refine (spec_DrawRefWord.calls k _ _ l0 t176 _ ?side1 ?side2 A5.out).mono ?_); (case side1 => repeat (first | exact (Kd.C_below HR0.out HB.out) | (with_reducible refine Kd.C_alloc ?_ _) | (with_reducible refine Kd.C_drewN ?_ _) | (with_reducible refine Kd.C_drew ?_))); (case side2 => exact HC0.out); rintro e w13 ⟨rfl, hb⟩; refine ⟨_, rfl, ?_⟩; have n0_ := Aside0.mk (below_step (by repeat (first | (with_reducible first | exact HB.out | apply below_alloc | apply pw_below_drewN | apply below_drew1) | exact HB.out)) hb); clear HB; have HB := n0_; clear n0_; (try clear hb); (try clear hb2); (try clear hk); (try clear hi)) | ((with_reducible refine gate_callee (f := 24) rfl ?_); refine goesL_ (some 17) rfl rfl Try.func24 (by kernel_rfl) rfl #[.int .i64 t175] rfl (by (try simp only [List.map_toArray, List.map_cons, List.map_nil]); first | done | rfl | (simp only [List.length_drop, List.length_take]; rfl)) ?_; (with_reducible refine (impl_IntWord.calls t175 t177 _ A6.out).mono ?_); rintro e w' ⟨rfl, ⟨nd, rfl⟩⟩; refine ⟨_, rfl, ?_⟩) | ((with_reducible refine gate_callee (f := 22) rfl ?_); refine goesL_ (some 19) rfl rfl Try.func22 (by kernel_rfl) rfl #[.int .i64 t176] rfl (by (try simp only [List.map_toArray, List.map_cons, List.map_nil]); first | done | rfl | (simp only [List.length_drop, List.length_take]; rfl)) ?_; (with_reducible refine (impl_RefWord.calls t176 t178 _ A7.out).mono ?_); rintro e w' ⟨rfl, ⟨nd, rfl⟩⟩; refine ⟨_, rfl, ?_⟩) | ((with_reducible refine gate_callee (f := 44) rfl ?_); refine goesL_ (some 21) rfl rfl Try.func44 (by kernel_rfl) rfl #[.slice A0 l0.length c0] rfl (by (try simp only [List.map_toArray, List.map_cons, List.map_nil]); first | done | rfl | (simp only [List.length_drop, List.length_take]; rfl)) ?_; (with_reducible refine (spec_DrawWordInt.calls k _ _ l0 t179 _ ?side1 ?side2 A8.out).mono ?_); (case side1 => repeat (first | exact (Kd.C_below HR0.out (by repeat (first | (with_reducible first | exact HB.out | apply below_alloc | apply pw_below_drewN | apply below_drew1) | exact HB.out))) | (with_reducible refine Kd.C_alloc ?_ _) | (with_reducible refine Kd.C_drewN ?_ _) | (with_reducible refine Kd.C_drew ?_))); (case side2 => exact HC0.out); rintro e w14 ⟨rfl, hb⟩; refine ⟨_, rfl, ?_⟩; have n0_ := Aside0.mk (below_step (by repeat (first | (with_reducible first | exact HB.out | apply below_alloc | apply pw_below_drewN | apply below_drew1) | exact HB.out)) hb); clear HB; have HB := n0_; clear n0_; (try clear hb); (try clear hb2); (try clear hk); (try clear hi)) | ((with_reducible refine gate_callee (f := 45) rfl ?_); refine goesL_ (some 23) rfl rfl Try.func45 (by kernel_rfl) rfl #[.slice A0 l0.length c0] rfl (by (try simp only [List.map_toArray, List.map_cons, List.map_nil]); first | done | rfl | (simp only [List.length_drop, List.length_take]; rfl)) ?_; (with_reducible refine (spec_DrawWordRef.calls k _ _ l0 t180 _ ?side1 ?side2 A9.out).mono ?_); (case side1 => repeat (first | exact (Kd.C_below HR0.out HB.out) | (with_reducible refine Kd.C_alloc ?_ _) | (with_reducible refine Kd.C_drewN ?_ _) | (with_reducible refine Kd.C_drew ?_))); (case side2 => exact HC0.out); rintro e w15 ⟨rfl, hb⟩; refine ⟨_, rfl, ?_⟩; have n0_ := Aside0.mk (below_step (by repeat (first | (with_reducible first | exact HB.out | apply below_alloc | apply pw_below_drewN | apply below_drew1) | exact HB.out)) hb); clear HB; have HB := n0_; clear n0_; (try clear hb); (try clear hb2); (try clear hk); (try clear hi)) | ((with_reducible refine gate_callee (f := 46) rfl ?_); refine goesL_ (some 25) rfl rfl Try.func46 (by kernel_rfl) rfl #[.slice A0 l0.length c0] rfl (by (try simp only [List.map_toArray, List.map_cons, List.map_nil]); first | done | rfl | (simp only [List.length_drop, List.length_take]; rfl)) ?_; (with_reducible refine (spec_DrawIsRef.calls k _ _ l0 t181 _ ?side1 ?side2 A10.out).mono ?_); (case side1 => repeat (first | exact (Kd.C_below HR0.out HB.out) | (with_reducible refine Kd.C_alloc ?_ _) | (with_reducible refine Kd.C_drewN ?_ _) | (with_reducible refine Kd.C_drew ?_))); (case side2 => exact HC0.out); rintro e w16 ⟨rfl, hb⟩; refine ⟨_, rfl, ?_⟩; have n0_ := Aside0.mk (below_step (by repeat (first | (with_reducible first | exact HB.out | apply below_alloc | apply pw_below_drewN | apply below_drew1) | exact HB.out)) hb); clear HB; have HB := n0_; clear n0_; (try clear hb); (try clear hb2); (try clear hk); (try clear hi)))
    (try simp only [Act.put, List.setIfInBounds_toArray, List.set_cons_zero, List.set_cons_succ])
    go_cut [56] (fun v56 wc => ∃ (kq : Nat) (x56_10 : Bool), v56 = .bool x56_10 ∧ Aside0 (laws_FnWords.j0 kq t175 t176 t177 t178 x56_10 = some r) ∧ Aside0 (kq ≤ k) ∧ Aside0 (Below w.heap.size w wc))
    case first =>
      have H := HC11.out
      clear HC11
      replace H := Option.bind_eq_some_iff.mp H
      obtain ⟨t182, A170, H⟩ := H
      replace H : (if t177 = t182 then ((spec_RefWord.f t176).bind fun t183 => (if t178 = t183 then ((impl_WordInt.f t179).bind fun t184 => ((spec_WordInt.f t179).bind fun t185 => (if t184 = t185 then ((impl_WordRef.f t180).bind fun t186 => ((spec_WordRef.f t180).bind fun t187 => (if t186 = t187 then ((impl_IsRef.f t181).bind fun t188 => ((spec_IsRef.f t181).bind fun t189 => (laws_FnWords.j0 k t175 t176 t177 t178 (t188 != t189)))) else (laws_FnWords.j0 k t175 t176 t177 t178 true)))) else (laws_FnWords.j0 k t175 t176 t177 t178 true)))) else (laws_FnWords.j0 k t175 t176 t177 t178 true))) else (laws_FnWords.j0 k t175 t176 t177 t178 true)) = some r := H
      have A17 := Aside0.mk A170
      clear A170
      by_cases c18 : t177 = t182
      · rw [if_pos c18] at H
        have c18b0 : (t177 == t182) = true := beq_iff_eq.mpr c18
        have c18b1 : (t177 != t182) = false := bne_eq_false_iff_eq.mpr c18
        clear c18
        (first | rw [c18b0] | (simp only [i64_w, i32_w]; rw [c18b0]) | skip)
        replace H := Option.bind_eq_some_iff.mp H
        obtain ⟨t183, A190, H⟩ := H
        replace H : (if t178 = t183 then ((impl_WordInt.f t179).bind fun t184 => ((spec_WordInt.f t179).bind fun t185 => (if t184 = t185 then ((impl_WordRef.f t180).bind fun t186 => ((spec_WordRef.f t180).bind fun t187 => (if t186 = t187 then ((impl_IsRef.f t181).bind fun t188 => ((spec_IsRef.f t181).bind fun t189 => (laws_FnWords.j0 k t175 t176 t177 t178 (t188 != t189)))) else (laws_FnWords.j0 k t175 t176 t177 t178 true)))) else (laws_FnWords.j0 k t175 t176 t177 t178 true)))) else (laws_FnWords.j0 k t175 t176 t177 t178 true)) = some r := H
        have A19 := Aside0.mk A190
        clear A190
        by_cases c20 : t178 = t183
        · rw [if_pos c20] at H
          have c20b0 : (t178 == t183) = true := beq_iff_eq.mpr c20
          have c20b1 : (t178 != t183) = false := bne_eq_false_iff_eq.mpr c20
          clear c20
          replace H := Option.bind_eq_some_iff.mp H
          obtain ⟨t184, A210, H⟩ := H
          replace H : ((spec_WordInt.f t179).bind fun t185 => (if t184 = t185 then ((impl_WordRef.f t180).bind fun t186 => ((spec_WordRef.f t180).bind fun t187 => (if t186 = t187 then ((impl_IsRef.f t181).bind fun t188 => ((spec_IsRef.f t181).bind fun t189 => (laws_FnWords.j0 k t175 t176 t177 t178 (t188 != t189)))) else (laws_FnWords.j0 k t175 t176 t177 t178 true)))) else (laws_FnWords.j0 k t175 t176 t177 t178 true))) = some r := H
          have A21 := Aside0.mk A210
          clear A210
          replace H := Option.bind_eq_some_iff.mp H
          obtain ⟨t185, A220, H⟩ := H
          replace H : (if t184 = t185 then ((impl_WordRef.f t180).bind fun t186 => ((spec_WordRef.f t180).bind fun t187 => (if t186 = t187 then ((impl_IsRef.f t181).bind fun t188 => ((spec_IsRef.f t181).bind fun t189 => (laws_FnWords.j0 k t175 t176 t177 t178 (t188 != t189)))) else (laws_FnWords.j0 k t175 t176 t177 t178 true)))) else (laws_FnWords.j0 k t175 t176 t177 t178 true)) = some r := H
          have A22 := Aside0.mk A220
          clear A220
          by_cases c23 : t184 = t185
          · rw [if_pos c23] at H
            have c23b0 : (t184 == t185) = true := beq_iff_eq.mpr c23
            have c23b1 : (t184 != t185) = false := bne_eq_false_iff_eq.mpr c23
            clear c23
            replace H := Option.bind_eq_some_iff.mp H
            obtain ⟨t186, A240, H⟩ := H
            replace H : ((spec_WordRef.f t180).bind fun t187 => (if t186 = t187 then ((impl_IsRef.f t181).bind fun t188 => ((spec_IsRef.f t181).bind fun t189 => (laws_FnWords.j0 k t175 t176 t177 t178 (t188 != t189)))) else (laws_FnWords.j0 k t175 t176 t177 t178 true))) = some r := H
            have A24 := Aside0.mk A240
            clear A240
            replace H := Option.bind_eq_some_iff.mp H
            obtain ⟨t187, A250, H⟩ := H
            replace H : (if t186 = t187 then ((impl_IsRef.f t181).bind fun t188 => ((spec_IsRef.f t181).bind fun t189 => (laws_FnWords.j0 k t175 t176 t177 t178 (t188 != t189)))) else (laws_FnWords.j0 k t175 t176 t177 t178 true)) = some r := H
            have A25 := Aside0.mk A250
            clear A250
            by_cases c26 : t186 = t187
            · rw [if_pos c26] at H
              have c26b0 : (t186 == t187) = true := beq_iff_eq.mpr c26
              have c26b1 : (t186 != t187) = false := bne_eq_false_iff_eq.mpr c26
              clear c26
              replace H := Option.bind_eq_some_iff.mp H
              obtain ⟨t188, A270, H⟩ := H
              replace H : ((spec_IsRef.f t181).bind fun t189 => (laws_FnWords.j0 k t175 t176 t177 t178 (t188 != t189))) = some r := H
              have A27 := Aside0.mk A270
              clear A270
              replace H := Option.bind_eq_some_iff.mp H
              obtain ⟨t189, A280, H⟩ := H
              replace H : (laws_FnWords.j0 k t175 t176 t177 t178 (t188 != t189)) = some r := H
              have A28 := Aside0.mk A280
              clear A280
              have H' := Aside0.mk H
              clear H
              go_wp2_with (first | ((with_reducible refine gate_callee (f := 23) rfl ?_); refine goesL_ (some 28) rfl rfl Try.func23 (by kernel_rfl) rfl #[.int .i64 t175] rfl (by (try simp only [List.map_toArray, List.map_cons, List.map_nil]); first | done | rfl | (simp only [List.length_drop, List.length_take]; rfl)) ?_; (with_reducible refine (spec_IntWord.calls t175 t182 _ A17.out).mono ?_); rintro e w' ⟨rfl, ⟨nd, rfl⟩⟩; refine ⟨_, rfl, ?_⟩) | (go_at_call 21; (with_reducible refine (spec_RefWord.calls t176 t183 _ A19.out).mono ?_); rintro e w' ⟨rfl, ⟨nd, rfl⟩⟩) | (go_at_call 18; (with_reducible refine (impl_WordInt.calls t179 t184 _ A21.out).mono ?_); rintro e w' ⟨rfl, ⟨nd, rfl⟩⟩) | (go_at_call 17; (with_reducible refine (spec_WordInt.calls t179 t185 _ A22.out).mono ?_); rintro e w' ⟨rfl, ⟨nd, rfl⟩⟩) | (go_at_call 20; (with_reducible refine (impl_WordRef.calls t180 t186 _ A24.out).mono ?_); rintro e w' ⟨rfl, ⟨nd, rfl⟩⟩) | (go_at_call 19; (with_reducible refine (spec_WordRef.calls t180 t187 _ A25.out).mono ?_); rintro e w' ⟨rfl, ⟨nd, rfl⟩⟩) | (go_at_call 16; (with_reducible refine (impl_IsRef.calls t181 t188 _ A27.out).mono ?_); rintro e w' ⟨rfl, ⟨nd, rfl⟩⟩) | (go_at_call 15; (with_reducible refine (spec_IsRef.calls t181 t189 _ A28.out).mono ?_); rintro e w' ⟨rfl, ⟨nd, rfl⟩⟩))
              go_meet
              case rel => exact ⟨_, ((t188 != t189)), (by first | rfl | (simp; done) | (simp [*]; done)), H', ⟨by first | omega | exact Nat.le_refl _⟩, ⟨by repeat (first | (with_reducible first | exact HB.out | apply below_alloc | apply pw_below_drewN | apply below_drew1) | exact HB.out)⟩⟩
            · rw [if_neg c26] at H
              have c26b0 : (t186 == t187) = false := beq_eq_false_iff_ne.mpr c26
              have c26b1 : (t186 != t187) = true := bne_iff_ne.mpr c26
              have H' := Aside0.mk H
              clear H
              go_wp2_with (first | ((with_reducible refine gate_callee (f := 23) rfl ?_); refine goesL_ (some 28) rfl rfl Try.func23 (by kernel_rfl) rfl #[.int .i64 t175] rfl (by (try simp only [List.map_toArray, List.map_cons, List.map_nil]); first | done | rfl | (simp only [List.length_drop, List.length_take]; rfl)) ?_; (with_reducible refine (spec_IntWord.calls t175 t182 _ A17.out).mono ?_); rintro e w' ⟨rfl, ⟨nd, rfl⟩⟩; refine ⟨_, rfl, ?_⟩) | (go_at_call 21; (with_reducible refine (spec_RefWord.calls t176 t183 _ A19.out).mono ?_); rintro e w' ⟨rfl, ⟨nd, rfl⟩⟩) | (go_at_call 18; (with_reducible refine (impl_WordInt.calls t179 t184 _ A21.out).mono ?_); rintro e w' ⟨rfl, ⟨nd, rfl⟩⟩) | (go_at_call 17; (with_reducible refine (spec_WordInt.calls t179 t185 _ A22.out).mono ?_); rintro e w' ⟨rfl, ⟨nd, rfl⟩⟩) | (go_at_call 20; (with_reducible refine (impl_WordRef.calls t180 t186 _ A24.out).mono ?_); rintro e w' ⟨rfl, ⟨nd, rfl⟩⟩) | (go_at_call 19; (with_reducible refine (spec_WordRef.calls t180 t187 _ A25.out).mono ?_); rintro e w' ⟨rfl, ⟨nd, rfl⟩⟩))
              go_meet
              case rel => exact ⟨_, (true), (by first | rfl | (simp; done) | (simp [*]; done)), H', ⟨by first | omega | exact Nat.le_refl _⟩, ⟨by repeat (first | (with_reducible first | exact HB.out | apply below_alloc | apply pw_below_drewN | apply below_drew1) | exact HB.out)⟩⟩
          · rw [if_neg c23] at H
            have c23b0 : (t184 == t185) = false := beq_eq_false_iff_ne.mpr c23
            have c23b1 : (t184 != t185) = true := bne_iff_ne.mpr c23
            have H' := Aside0.mk H
            clear H
            go_wp2_with (first | ((with_reducible refine gate_callee (f := 23) rfl ?_); refine goesL_ (some 28) rfl rfl Try.func23 (by kernel_rfl) rfl #[.int .i64 t175] rfl (by (try simp only [List.map_toArray, List.map_cons, List.map_nil]); first | done | rfl | (simp only [List.length_drop, List.length_take]; rfl)) ?_; (with_reducible refine (spec_IntWord.calls t175 t182 _ A17.out).mono ?_); rintro e w' ⟨rfl, ⟨nd, rfl⟩⟩; refine ⟨_, rfl, ?_⟩) | (go_at_call 21; (with_reducible refine (spec_RefWord.calls t176 t183 _ A19.out).mono ?_); rintro e w' ⟨rfl, ⟨nd, rfl⟩⟩) | (go_at_call 18; (with_reducible refine (impl_WordInt.calls t179 t184 _ A21.out).mono ?_); rintro e w' ⟨rfl, ⟨nd, rfl⟩⟩) | (go_at_call 17; (with_reducible refine (spec_WordInt.calls t179 t185 _ A22.out).mono ?_); rintro e w' ⟨rfl, ⟨nd, rfl⟩⟩))
            go_meet
            case rel => exact ⟨_, (true), (by first | rfl | (simp; done) | (simp [*]; done)), H', ⟨by first | omega | exact Nat.le_refl _⟩, ⟨by repeat (first | (with_reducible first | exact HB.out | apply below_alloc | apply pw_below_drewN | apply below_drew1) | exact HB.out)⟩⟩
        · rw [if_neg c20] at H
          have c20b0 : (t178 == t183) = false := beq_eq_false_iff_ne.mpr c20
          have c20b1 : (t178 != t183) = true := bne_iff_ne.mpr c20
          have H' := Aside0.mk H
          clear H
          go_wp2_with (first | ((with_reducible refine gate_callee (f := 23) rfl ?_); refine goesL_ (some 28) rfl rfl Try.func23 (by kernel_rfl) rfl #[.int .i64 t175] rfl (by (try simp only [List.map_toArray, List.map_cons, List.map_nil]); first | done | rfl | (simp only [List.length_drop, List.length_take]; rfl)) ?_; (with_reducible refine (spec_IntWord.calls t175 t182 _ A17.out).mono ?_); rintro e w' ⟨rfl, ⟨nd, rfl⟩⟩; refine ⟨_, rfl, ?_⟩) | (go_at_call 21; (with_reducible refine (spec_RefWord.calls t176 t183 _ A19.out).mono ?_); rintro e w' ⟨rfl, ⟨nd, rfl⟩⟩))
          go_meet
          case rel => exact ⟨_, (true), (by first | rfl | (simp; done) | (simp [*]; done)), H', ⟨by first | omega | exact Nat.le_refl _⟩, ⟨by repeat (first | (with_reducible first | exact HB.out | apply below_alloc | apply pw_below_drewN | apply below_drew1) | exact HB.out)⟩⟩
      · rw [if_neg c18] at H
        have c18b0 : (t177 == t182) = false := beq_eq_false_iff_ne.mpr c18
        have c18b1 : (t177 != t182) = true := bne_iff_ne.mpr c18
        (first | rw [c18b0] | (simp only [i64_w, i32_w]; rw [c18b0]) | skip)
        have H' := Aside0.mk H
        clear H
        go_wp2_with (first | ((with_reducible refine gate_callee (f := 23) rfl ?_); refine goesL_ (some 28) rfl rfl Try.func23 (by kernel_rfl) rfl #[.int .i64 t175] rfl (by (try simp only [List.map_toArray, List.map_cons, List.map_nil]); first | done | rfl | (simp only [List.length_drop, List.length_take]; rfl)) ?_; (with_reducible refine (spec_IntWord.calls t175 t182 _ A17.out).mono ?_); rintro e w' ⟨rfl, ⟨nd, rfl⟩⟩; refine ⟨_, rfl, ?_⟩))
        go_meet
        case rel => exact ⟨_, (true), (by first | rfl | (simp; done) | (simp [*]; done)), H', ⟨by first | omega | exact Nat.le_refl _⟩, ⟨by repeat (first | (with_reducible first | exact HB.out | apply below_alloc | apply pw_below_drewN | apply below_drew1) | exact HB.out)⟩⟩
    case rest =>
      clear HC11
      try clear c1
      try clear c2
      try clear p2
      try clear c3
      try clear c4
      try clear c12
      try clear c18
      try clear c18b0
      try clear c18b1
      try clear c20
      try clear c20b0
      try clear c20b1
      try clear c22
      try clear c23
      try clear c23b0
      try clear c23b1
      try clear c24
      try clear c26
      try clear c26b0
      try clear c26b1
      obtain ⟨kq, x56_10, rfl, HA, HJ10, HB⟩ := hcut
      cases kq with
      | zero => exact absurd HA.out (by simp [laws_FnWords.j0])
      | succ kj10 =>
        have H := HA.out
        clear HA
        simp only [laws_FnWords.j0] at H
        by_cases c29 : x56_10 = true
        · subst c29
          have H1 : (some false) = some r := by rw [if_pos rfl] at H; exact H
          clear H
          have H := H1
          clear H1
          obtain rfl := Option.some.inj H
          go_wp2
          go_ret
          exact ⟨by first | rfl | (simp [errW_none, errW_some] <;> rfl) | (simp [*, errW_none, errW_some] <;> rfl), by repeat (first | (with_reducible first | exact HB.out | apply below_alloc | apply pw_below_drewN | apply below_drew1) | exact HB.out)⟩
        · replace c29 := Bool.eq_false_iff.mpr c29
          subst c29
          have H1 : ((impl_IsRef.f t177).bind fun t190 => (if t190 = true then (some false) else ((impl_IsRef.f t178).bind fun t191 => (if t191 = true then ((impl_WordOk.f t175).bind fun t192 => (if t192 = true then ((impl_WordInt.f t177).bind fun t193 => (if t193 = t175 then (if t176 < 0 then (some true) else (if t176 > 6000 then (some true) else ((impl_WordRef.f t178).bind fun t194 => (some (t194 == t176))))) else (some false))) else (if t176 < 0 then (some true) else (if t176 > 6000 then (some true) else ((impl_WordRef.f t178).bind fun t195 => (some (t195 == t176))))))) else (some false))))) = some r := by rw [if_neg (show ¬ (false = true) by decide)] at H; exact H
          clear H
          have H := H1
          clear H1
          replace H := Option.bind_eq_some_iff.mp H
          obtain ⟨t190, A300, H⟩ := H
          replace H : (if t190 = true then (some false) else ((impl_IsRef.f t178).bind fun t191 => (if t191 = true then ((impl_WordOk.f t175).bind fun t192 => (if t192 = true then ((impl_WordInt.f t177).bind fun t193 => (if t193 = t175 then (if t176 < 0 then (some true) else (if t176 > 6000 then (some true) else ((impl_WordRef.f t178).bind fun t194 => (some (t194 == t176))))) else (some false))) else (if t176 < 0 then (some true) else (if t176 > 6000 then (some true) else ((impl_WordRef.f t178).bind fun t195 => (some (t195 == t176))))))) else (some false)))) = some r := H
          have A30 := Aside0.mk A300
          clear A300
          by_cases c31 : t190 = true
          · subst c31
            have H1 : (some false) = some r := by rw [if_pos rfl] at H; exact H
            clear H
            have H := H1
            clear H1
            obtain rfl := Option.some.inj H
            go_wp2_with (first | ((with_reducible refine gate_callee (f := 16) rfl ?_); refine goesL_ (some 58) rfl rfl Try.func16 (by kernel_rfl) rfl #[.int .i64 t177] rfl (by (try simp only [List.map_toArray, List.map_cons, List.map_nil]); first | done | rfl | (simp only [List.length_drop, List.length_take]; rfl)) ?_; (with_reducible refine (impl_IsRef.calls t177 true _ A30.out).mono ?_); rintro e w' ⟨rfl, ⟨nd, rfl⟩⟩; refine ⟨_, rfl, ?_⟩))
            go_ret
            exact ⟨by first | rfl | (simp [errW_none, errW_some] <;> rfl) | (simp [*, errW_none, errW_some] <;> rfl), by repeat (first | (with_reducible first | exact HB.out | apply below_alloc | apply pw_below_drewN | apply below_drew1) | exact HB.out)⟩
          · replace c31 := Bool.eq_false_iff.mpr c31
            subst c31
            have H1 : ((impl_IsRef.f t178).bind fun t191 => (if t191 = true then ((impl_WordOk.f t175).bind fun t192 => (if t192 = true then ((impl_WordInt.f t177).bind fun t193 => (if t193 = t175 then (if t176 < 0 then (some true) else (if t176 > 6000 then (some true) else ((impl_WordRef.f t178).bind fun t194 => (some (t194 == t176))))) else (some false))) else (if t176 < 0 then (some true) else (if t176 > 6000 then (some true) else ((impl_WordRef.f t178).bind fun t195 => (some (t195 == t176))))))) else (some false))) = some r := by rw [if_neg (show ¬ (false = true) by decide)] at H; exact H
            clear H
            have H := H1
            clear H1
            replace H := Option.bind_eq_some_iff.mp H
            obtain ⟨t191, A320, H⟩ := H
            replace H : (if t191 = true then ((impl_WordOk.f t175).bind fun t192 => (if t192 = true then ((impl_WordInt.f t177).bind fun t193 => (if t193 = t175 then (if t176 < 0 then (some true) else (if t176 > 6000 then (some true) else ((impl_WordRef.f t178).bind fun t194 => (some (t194 == t176))))) else (some false))) else (if t176 < 0 then (some true) else (if t176 > 6000 then (some true) else ((impl_WordRef.f t178).bind fun t195 => (some (t195 == t176))))))) else (some false)) = some r := H
            have A32 := Aside0.mk A320
            clear A320
            by_cases c33 : t191 = true
            · subst c33
              have H1 : ((impl_WordOk.f t175).bind fun t192 => (if t192 = true then ((impl_WordInt.f t177).bind fun t193 => (if t193 = t175 then (if t176 < 0 then (some true) else (if t176 > 6000 then (some true) else ((impl_WordRef.f t178).bind fun t194 => (some (t194 == t176))))) else (some false))) else (if t176 < 0 then (some true) else (if t176 > 6000 then (some true) else ((impl_WordRef.f t178).bind fun t195 => (some (t195 == t176))))))) = some r := by rw [if_pos rfl] at H; exact H
              clear H
              have H := H1
              clear H1
              replace H := Option.bind_eq_some_iff.mp H
              obtain ⟨t192, A340, H⟩ := H
              replace H : (if t192 = true then ((impl_WordInt.f t177).bind fun t193 => (if t193 = t175 then (if t176 < 0 then (some true) else (if t176 > 6000 then (some true) else ((impl_WordRef.f t178).bind fun t194 => (some (t194 == t176))))) else (some false))) else (if t176 < 0 then (some true) else (if t176 > 6000 then (some true) else ((impl_WordRef.f t178).bind fun t195 => (some (t195 == t176)))))) = some r := H
              have A34 := Aside0.mk A340
              clear A340
              by_cases c35 : t192 = true
              · subst c35
                have H1 : ((impl_WordInt.f t177).bind fun t193 => (if t193 = t175 then (if t176 < 0 then (some true) else (if t176 > 6000 then (some true) else ((impl_WordRef.f t178).bind fun t194 => (some (t194 == t176))))) else (some false))) = some r := by rw [if_pos rfl] at H; exact H
                clear H
                have H := H1
                clear H1
                replace H := Option.bind_eq_some_iff.mp H
                obtain ⟨t193, A360, H⟩ := H
                replace H : (if t193 = t175 then (if t176 < 0 then (some true) else (if t176 > 6000 then (some true) else ((impl_WordRef.f t178).bind fun t194 => (some (t194 == t176))))) else (some false)) = some r := H
                have A36 := Aside0.mk A360
                clear A360
                by_cases c37 : t193 = t175
                · rw [if_pos c37] at H
                  have c37b0 : (t193 == t175) = true := beq_iff_eq.mpr c37
                  have c37b1 : (t193 != t175) = false := bne_eq_false_iff_eq.mpr c37
                  clear c37
                  by_cases c38 : t176 < 0
                  · rw [if_pos c38] at H
                    have c38b0 : decide (t176 < 0) = true := decide_eq_true c38
                    clear c38
                    obtain rfl := Option.some.inj H
                    go_wp2_with (first | ((with_reducible refine gate_callee (f := 16) rfl ?_); refine goesL_ (some 58) rfl rfl Try.func16 (by kernel_rfl) rfl #[.int .i64 t177] rfl (by (try simp only [List.map_toArray, List.map_cons, List.map_nil]); first | done | rfl | (simp only [List.length_drop, List.length_take]; rfl)) ?_; (with_reducible refine (impl_IsRef.calls t177 false _ A30.out).mono ?_); rintro e w' ⟨rfl, ⟨nd, rfl⟩⟩; refine ⟨_, rfl, ?_⟩) | (go_at_call 16; (with_reducible refine (impl_IsRef.calls t178 true _ A32.out).mono ?_); rintro e w' ⟨rfl, ⟨nd, rfl⟩⟩) | (go_at_call 47; (with_reducible refine (impl_WordOk.calls t175 true _ A34.out).mono ?_); rintro e w' ⟨rfl, ⟨nd, rfl⟩⟩) | (go_at_call 18; (with_reducible refine (impl_WordInt.calls t177 t193 _ A36.out).mono ?_); rintro e w' ⟨rfl, ⟨nd, rfl⟩⟩))
                    go_ret
                    exact ⟨by first | rfl | (simp [errW_none, errW_some] <;> rfl) | (simp [*, errW_none, errW_some] <;> rfl), by repeat (first | (with_reducible first | exact HB.out | apply below_alloc | apply pw_below_drewN | apply below_drew1) | exact HB.out)⟩
                  · rw [if_neg c38] at H
                    have c38b0 : decide (t176 < 0) = false := decide_eq_false c38
                    clear c38
                    by_cases c39 : t176 > 6000
                    · rw [if_pos c39] at H
                      have c39b0 : decide (6000 < t176) = true := decide_eq_true c39
                      clear c39
                      obtain rfl := Option.some.inj H
                      go_wp2_with (first | ((with_reducible refine gate_callee (f := 16) rfl ?_); refine goesL_ (some 58) rfl rfl Try.func16 (by kernel_rfl) rfl #[.int .i64 t177] rfl (by (try simp only [List.map_toArray, List.map_cons, List.map_nil]); first | done | rfl | (simp only [List.length_drop, List.length_take]; rfl)) ?_; (with_reducible refine (impl_IsRef.calls t177 false _ A30.out).mono ?_); rintro e w' ⟨rfl, ⟨nd, rfl⟩⟩; refine ⟨_, rfl, ?_⟩) | (go_at_call 16; (with_reducible refine (impl_IsRef.calls t178 true _ A32.out).mono ?_); rintro e w' ⟨rfl, ⟨nd, rfl⟩⟩) | (go_at_call 47; (with_reducible refine (impl_WordOk.calls t175 true _ A34.out).mono ?_); rintro e w' ⟨rfl, ⟨nd, rfl⟩⟩) | (go_at_call 18; (with_reducible refine (impl_WordInt.calls t177 t193 _ A36.out).mono ?_); rintro e w' ⟨rfl, ⟨nd, rfl⟩⟩))
                      go_ret
                      exact ⟨by first | rfl | (simp [errW_none, errW_some] <;> rfl) | (simp [*, errW_none, errW_some] <;> rfl), by repeat (first | (with_reducible first | exact HB.out | apply below_alloc | apply pw_below_drewN | apply below_drew1) | exact HB.out)⟩
                    · rw [if_neg c39] at H
                      have c39b0 : decide (6000 < t176) = false := decide_eq_false c39
                      clear c39
                      replace H := Option.bind_eq_some_iff.mp H
                      obtain ⟨t194, A400, H⟩ := H
                      replace H : (some (t194 == t176)) = some r := H
                      have A40 := Aside0.mk A400
                      clear A400
                      obtain rfl := Option.some.inj H
                      go_wp2_with (first | ((with_reducible refine gate_callee (f := 16) rfl ?_); refine goesL_ (some 58) rfl rfl Try.func16 (by kernel_rfl) rfl #[.int .i64 t177] rfl (by (try simp only [List.map_toArray, List.map_cons, List.map_nil]); first | done | rfl | (simp only [List.length_drop, List.length_take]; rfl)) ?_; (with_reducible refine (impl_IsRef.calls t177 false _ A30.out).mono ?_); rintro e w' ⟨rfl, ⟨nd, rfl⟩⟩; refine ⟨_, rfl, ?_⟩) | (go_at_call 16; (with_reducible refine (impl_IsRef.calls t178 true _ A32.out).mono ?_); rintro e w' ⟨rfl, ⟨nd, rfl⟩⟩) | (go_at_call 47; (with_reducible refine (impl_WordOk.calls t175 true _ A34.out).mono ?_); rintro e w' ⟨rfl, ⟨nd, rfl⟩⟩) | (go_at_call 18; (with_reducible refine (impl_WordInt.calls t177 t193 _ A36.out).mono ?_); rintro e w' ⟨rfl, ⟨nd, rfl⟩⟩) | (go_at_call 20; (with_reducible refine (impl_WordRef.calls t178 t194 _ A40.out).mono ?_); rintro e w' ⟨rfl, ⟨nd, rfl⟩⟩))
                      go_ret
                      exact ⟨by first | rfl | (simp [errW_none, errW_some] <;> rfl) | (simp [*, errW_none, errW_some] <;> rfl), by repeat (first | (with_reducible first | exact HB.out | apply below_alloc | apply pw_below_drewN | apply below_drew1) | exact HB.out)⟩
                · rw [if_neg c37] at H
                  have c37b0 : (t193 == t175) = false := beq_eq_false_iff_ne.mpr c37
                  have c37b1 : (t193 != t175) = true := bne_iff_ne.mpr c37
                  obtain rfl := Option.some.inj H
                  go_wp2_with (first | ((with_reducible refine gate_callee (f := 16) rfl ?_); refine goesL_ (some 58) rfl rfl Try.func16 (by kernel_rfl) rfl #[.int .i64 t177] rfl (by (try simp only [List.map_toArray, List.map_cons, List.map_nil]); first | done | rfl | (simp only [List.length_drop, List.length_take]; rfl)) ?_; (with_reducible refine (impl_IsRef.calls t177 false _ A30.out).mono ?_); rintro e w' ⟨rfl, ⟨nd, rfl⟩⟩; refine ⟨_, rfl, ?_⟩) | (go_at_call 16; (with_reducible refine (impl_IsRef.calls t178 true _ A32.out).mono ?_); rintro e w' ⟨rfl, ⟨nd, rfl⟩⟩) | (go_at_call 47; (with_reducible refine (impl_WordOk.calls t175 true _ A34.out).mono ?_); rintro e w' ⟨rfl, ⟨nd, rfl⟩⟩) | (go_at_call 18; (with_reducible refine (impl_WordInt.calls t177 t193 _ A36.out).mono ?_); rintro e w' ⟨rfl, ⟨nd, rfl⟩⟩))
                  go_ret
                  exact ⟨by first | rfl | (simp [errW_none, errW_some] <;> rfl) | (simp [*, errW_none, errW_some] <;> rfl), by repeat (first | (with_reducible first | exact HB.out | apply below_alloc | apply pw_below_drewN | apply below_drew1) | exact HB.out)⟩
              · replace c35 := Bool.eq_false_iff.mpr c35
                subst c35
                have H1 : (if t176 < 0 then (some true) else (if t176 > 6000 then (some true) else ((impl_WordRef.f t178).bind fun t195 => (some (t195 == t176))))) = some r := by rw [if_neg (show ¬ (false = true) by decide)] at H; exact H
                clear H
                have H := H1
                clear H1
                by_cases c41 : t176 < 0
                · rw [if_pos c41] at H
                  have c41b0 : decide (t176 < 0) = true := decide_eq_true c41
                  clear c41
                  obtain rfl := Option.some.inj H
                  go_wp2_with (first | ((with_reducible refine gate_callee (f := 16) rfl ?_); refine goesL_ (some 58) rfl rfl Try.func16 (by kernel_rfl) rfl #[.int .i64 t177] rfl (by (try simp only [List.map_toArray, List.map_cons, List.map_nil]); first | done | rfl | (simp only [List.length_drop, List.length_take]; rfl)) ?_; (with_reducible refine (impl_IsRef.calls t177 false _ A30.out).mono ?_); rintro e w' ⟨rfl, ⟨nd, rfl⟩⟩; refine ⟨_, rfl, ?_⟩) | (go_at_call 16; (with_reducible refine (impl_IsRef.calls t178 true _ A32.out).mono ?_); rintro e w' ⟨rfl, ⟨nd, rfl⟩⟩) | (go_at_call 47; (with_reducible refine (impl_WordOk.calls t175 false _ A34.out).mono ?_); rintro e w' ⟨rfl, ⟨nd, rfl⟩⟩))
                  go_ret
                  exact ⟨by first | rfl | (simp [errW_none, errW_some] <;> rfl) | (simp [*, errW_none, errW_some] <;> rfl), by repeat (first | (with_reducible first | exact HB.out | apply below_alloc | apply pw_below_drewN | apply below_drew1) | exact HB.out)⟩
                · rw [if_neg c41] at H
                  have c41b0 : decide (t176 < 0) = false := decide_eq_false c41
                  clear c41
                  by_cases c42 : t176 > 6000
                  · rw [if_pos c42] at H
                    have c42b0 : decide (6000 < t176) = true := decide_eq_true c42
                    clear c42
                    obtain rfl := Option.some.inj H
                    go_wp2_with (first | ((with_reducible refine gate_callee (f := 16) rfl ?_); refine goesL_ (some 58) rfl rfl Try.func16 (by kernel_rfl) rfl #[.int .i64 t177] rfl (by (try simp only [List.map_toArray, List.map_cons, List.map_nil]); first | done | rfl | (simp only [List.length_drop, List.length_take]; rfl)) ?_; (with_reducible refine (impl_IsRef.calls t177 false _ A30.out).mono ?_); rintro e w' ⟨rfl, ⟨nd, rfl⟩⟩; refine ⟨_, rfl, ?_⟩) | (go_at_call 16; (with_reducible refine (impl_IsRef.calls t178 true _ A32.out).mono ?_); rintro e w' ⟨rfl, ⟨nd, rfl⟩⟩) | (go_at_call 47; (with_reducible refine (impl_WordOk.calls t175 false _ A34.out).mono ?_); rintro e w' ⟨rfl, ⟨nd, rfl⟩⟩))
                    go_ret
                    exact ⟨by first | rfl | (simp [errW_none, errW_some] <;> rfl) | (simp [*, errW_none, errW_some] <;> rfl), by repeat (first | (with_reducible first | exact HB.out | apply below_alloc | apply pw_below_drewN | apply below_drew1) | exact HB.out)⟩
                  · rw [if_neg c42] at H
                    have c42b0 : decide (6000 < t176) = false := decide_eq_false c42
                    clear c42
                    replace H := Option.bind_eq_some_iff.mp H
                    obtain ⟨t195, A430, H⟩ := H
                    replace H : (some (t195 == t176)) = some r := H
                    have A43 := Aside0.mk A430
                    clear A430
                    obtain rfl := Option.some.inj H
                    go_wp2_with (first | ((with_reducible refine gate_callee (f := 16) rfl ?_); refine goesL_ (some 58) rfl rfl Try.func16 (by kernel_rfl) rfl #[.int .i64 t177] rfl (by (try simp only [List.map_toArray, List.map_cons, List.map_nil]); first | done | rfl | (simp only [List.length_drop, List.length_take]; rfl)) ?_; (with_reducible refine (impl_IsRef.calls t177 false _ A30.out).mono ?_); rintro e w' ⟨rfl, ⟨nd, rfl⟩⟩; refine ⟨_, rfl, ?_⟩) | (go_at_call 16; (with_reducible refine (impl_IsRef.calls t178 true _ A32.out).mono ?_); rintro e w' ⟨rfl, ⟨nd, rfl⟩⟩) | (go_at_call 47; (with_reducible refine (impl_WordOk.calls t175 false _ A34.out).mono ?_); rintro e w' ⟨rfl, ⟨nd, rfl⟩⟩) | (go_at_call 20; (with_reducible refine (impl_WordRef.calls t178 t195 _ A43.out).mono ?_); rintro e w' ⟨rfl, ⟨nd, rfl⟩⟩))
                    go_ret
                    exact ⟨by first | rfl | (simp [errW_none, errW_some] <;> rfl) | (simp [*, errW_none, errW_some] <;> rfl), by repeat (first | (with_reducible first | exact HB.out | apply below_alloc | apply pw_below_drewN | apply below_drew1) | exact HB.out)⟩
            · replace c33 := Bool.eq_false_iff.mpr c33
              subst c33
              have H1 : (some false) = some r := by rw [if_neg (show ¬ (false = true) by decide)] at H; exact H
              clear H
              have H := H1
              clear H1
              obtain rfl := Option.some.inj H
              go_wp2_with (first | ((with_reducible refine gate_callee (f := 16) rfl ?_); refine goesL_ (some 58) rfl rfl Try.func16 (by kernel_rfl) rfl #[.int .i64 t177] rfl (by (try simp only [List.map_toArray, List.map_cons, List.map_nil]); first | done | rfl | (simp only [List.length_drop, List.length_take]; rfl)) ?_; (with_reducible refine (impl_IsRef.calls t177 false _ A30.out).mono ?_); rintro e w' ⟨rfl, ⟨nd, rfl⟩⟩; refine ⟨_, rfl, ?_⟩) | (go_at_call 16; (with_reducible refine (impl_IsRef.calls t178 false _ A32.out).mono ?_); rintro e w' ⟨rfl, ⟨nd, rfl⟩⟩))
              go_ret
              exact ⟨by first | rfl | (simp [errW_none, errW_some] <;> rfl) | (simp [*, errW_none, errW_some] <;> rfl), by repeat (first | (with_reducible first | exact HB.out | apply below_alloc | apply pw_below_drewN | apply below_drew1) | exact HB.out)⟩

/-- THE ONE PURE STATEMENT of laws_FnWords: yours. -/
def laws_FnWords.Pure : Prop := ∀ (l0 : List Int), l0.length ≤ maxLen → l0.length * 1 ≤ 140737488351232 → (∀ x ∈ l0, (Lit.int .u8 x).wf = true) → ∃ k, laws_FnWords.f k l0 = some true
theorem laws_FnWords.walk (P : laws_FnWords.Pure) (a0 : Option Addr) (len0 cap0 : Nat) (z0 : List Int) (w : World) (w0 : (a0 = none ∧ len0 = 0 ∧ cap0 = 0 ∧ z0 = []) ∨ ∃ x, a0 = some x ∧ len0 ≤ cap0 ∧ cap0 ≤ maxLen ∧ z0.length = cap0 ∧ (∀ i, i < z0.length → w.cell? (x.add i) = some (.int .u8 (z0.getD i 0))) ∧ ∀ n ∈ z0, (Lit.int .u8 n).wf = true) (y0 : len0 * 1 ≤ 140737488351232) :
    Calls Try.prog 12 #[.slice a0 len0 cap0] w fun e w' => e = .returned (.bool true) ∧ Below w.heap.size w w' := by
  obtain ⟨l0, rfl, hr0, hm0, hw0, hc0⟩ := ReadsInt.ofRowC w0
  obtain ⟨k, h⟩ := P l0 hm0 y0 hw0
  refine (laws_FnWords.calls k _ _ l0 true w (Kd.C_of_reads (d := (0 : Int)) (h1 := fun _ => rfl) hr0) hc0 h).mono ?_
  rintro e w' ⟨rfl, hd⟩
  exact ⟨rfl, hd⟩

end Go.Proofs.Ytmoaonpggckbiaa.QFnWords
