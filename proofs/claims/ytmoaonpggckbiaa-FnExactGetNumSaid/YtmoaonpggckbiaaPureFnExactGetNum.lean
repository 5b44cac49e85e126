/- For every row of bytes and every place the program's GetNum returns what the reference's returns, and leaves the bytes alone. No conditions. -/
import Derived.Test.YtmoaonpggckbiaaWfFnExactGetNum
import Derived.Test.YtmoaonpggckbiaaAid
namespace Go.Proofs.Ytmoaonpggckbiaa.PureGetNum
open Go.RowKit Go.Proofs.Ytmoaonpggckbiaa.PFnExactGetNum Go.Proofs.Ytmoaonpggckbiaa.Aid Go.Proofs.YtmoaonpggckbiaaW.PrintWords Go.Proofs.YtmoaonpggckbiaaW.PrintLast Go.Proofs.YtmoaonpggckbiaaW.PrintMore
set_option linter.unusedVariables false
set_option linter.unusedSimpArgs false

theorem eqByteS_refl (l : List Int) (hl : l.length ≤ 4611686018427387904) : Ev (fun k => laws_eqByteS.f k l l) true := by
  have key : ∀ (d : Nat) (i : Int), 0 ≤ i → (l.length : Int) - i = d → Ev (fun k => laws_eqByteS.l0 k l l i) true := by
    intro d
    induction d with
    | zero =>
      intro i h0 hd
      exact Ev.step (fun k => by rw [laws_eqByteS.l0, if_neg (by omega)]) (Ev.now _)
    | succ d ih =>
      intro i h0 hd
      refine Ev.step (f := fun k => laws_eqByteS.l0 k l l (i + 1)) (fun k => ?_) (ih (i + 1) (by omega) (by omega))
      rw [laws_eqByteS.l0, if_pos (by omega), if_pos h0, if_pos (by omega), if_pos rfl, w64 (by omega) (by omega)]
  refine Ev.congr (fun k => ?_) (key l.length 0 (by omega) (by omega))
  unfold laws_eqByteS.f; rw [if_pos rfl]


theorem toByteS_ev (l : List Int) (hl : l.length ≤ 1048576) : Ev (fun k => laws_toByteS.f k l) l := by
  have key : ∀ (d : Nat) (ys : List Int) (i : Nat), i + d = l.length → ys.length = l.length → ys.take i = l.take i → Ev (fun k => laws_toByteS.l0 k l ys i) l := by
    intro d
    induction d with
    | zero =>
      intro ys i h hy ht
      have e : ys = l := by
        rw [List.take_of_length_le (by omega), List.take_of_length_le (by omega)] at ht
        exact ht
      subst e
      exact Ev.step (fun k => by rw [laws_toByteS.l0, if_neg (by omega)]) (Ev.now _)
    | succ d ih =>
      intro ys i h hy ht
      have hi : i < l.length := by omega
      have e : (rd l (i : Int)) = l[i] := by
        unfold rd
        rw [Int.toNat_natCast, List.getD_eq_getElem?_getD, List.getElem?_eq_getElem hi, Option.getD_some]
      have h1 := ih (ys.set i (rd l (i : Int))) (i + 1) (by omega) (by rw [List.length_set]; exact hy) (by
        have h2 := set_take_append ys i (rd l (i : Int)) (by omega) []
        rw [List.append_nil] at h2
        rw [h2, ht, e, List.take_add_one, List.getElem?_eq_getElem hi]
        rfl)
      refine Ev.step (fun k => ?_) h1
      rw [laws_toByteS.l0, if_pos (by omega), if_pos (by omega), if_pos (by omega), w64 (by omega) (by omega), Int.toNat_natCast, show ((i : Int) + 1) = ((i + 1 : Nat) : Int) by omega]
  refine Ev.congr (fun k => ?_) (key l.length (List.replicate l.length 0) 0 (by omega) (by simp) (by simp))
  have h1 : 0 ≤ (l.length : Int) := by omega
  have h2 : (l.length : Int).toNat ≤ 281474976710656 := by omega
  unfold laws_toByteS.f
  rw [if_pos h1, Int.toNat_natCast, if_pos (by omega)]
  rfl

theorem shl_to (y : Int) (i : Nat) (h0 : 0 ≤ y) (h1 : y < 128) (hi : i < 5) : shl .i64 y (wrap64 (7 * (i : Int))) = y * 2 ^ (7 * i) := by
  have hp : (2 : Int) ^ (7 * i) ≤ 268435456 := by
    have h : 2 ^ (7 * i) ≤ 268435456 := Nat.pow_le_pow_right (n := 2) (by decide) (show 7 * i ≤ 28 by omega)
    rw [show (2 : Int) ^ (7 * i) = ((2 ^ (7 * i) : Nat) : Int) by simp]
    omega
  have hq : (0 : Int) ≤ 2 ^ (7 * i) := by
    rw [show (2 : Int) ^ (7 * i) = ((2 ^ (7 * i) : Nat) : Int) by simp]
    exact Int.natCast_nonneg _
  have h2 : y * 2 ^ (7 * i) ≤ 127 * 2 ^ (7 * i) := Int.mul_le_mul_of_nonneg_right (by omega) hq
  have h3 : 0 ≤ y * 2 ^ (7 * i) := Int.mul_nonneg h0 hq
  unfold shl
  rw [w64 (by omega) (by omega), show (7 * (i : Int)).toNat = 7 * i by omega, Nat.min_eq_left (by simp [IntKind.bits]; omega)]
  exact wrap_nonneg64 _ h3 (by omega)

theorem get_same (l : List Int) (hl : l.length ≤ 1048576) (hw : ∀ x ∈ l, 0 ≤ x ∧ x ≤ 255) (at0 : Int) (ha : 0 ≤ at0) (hb : at0 < l.length) :
    ∀ (d i : Nat) (n : Int), i + d = 5 → 0 ≤ n → n < 2 ^ (7 * i) → ∃ r, Ev (fun k => spec_GetNum.l0 k l at0 n i) r ∧ Ev (fun k => impl_GetNum.l0 k l at0 n i) r := by
  intro d
  induction d with
  | zero =>
    intro i n hi h0 h1
    refine ⟨(0, 0, false), Ev.step (fun k => ?_) (Ev.now _), Ev.step (f := fun k => impl_GetNum.j1 k l at0 n i false) (fun k => ?_) (Ev.step (fun k => ?_) (Ev.now _))⟩
    · rw [spec_GetNum.l0, if_neg (by omega)]
    · rw [impl_GetNum.l0, if_neg (by omega)]
    · rw [impl_GetNum.j1, if_neg (by decide)]
  | succ d ih =>
    intro i n hi h0 h1
    have hi5 : i < 5 := by omega
    have hs1 : wrap64 ((l.length : Int) - i) = l.length - i := w64 (by omega) (by omega)
    have hs2 : wrap64 (at0 + i) = at0 + i := w64 (by omega) (by omega)
    have hs3 : wrap64 ((i : Int) + 1) = ((i + 1 : Nat) : Int) := by rw [w64 (by omega) (by omega)]; omega
    have hs4 : wrap64 (7 * (i : Int)) = 7 * i := w64 (by omega) (by omega)
    have hs5 : wrap64 (at0 + i + 1) = at0 + i + 1 := w64 (by omega) (by omega)
    have hspec : ∀ k, spec_GetNum.l0 (k + 1) l at0 n i = spec_GetNum.j1 k l at0 n i (decide (at0 ≥ (l.length : Int) - i)) := by
      intro k
      rw [spec_GetNum.l0, if_pos (by omega), if_neg (by omega), hs1]
    have himpl : ∀ k, impl_GetNum.l0 (k + 1) l at0 n i = impl_GetNum.j1 k l at0 n i (decide (at0 + i < (l.length : Int))) := by
      intro k
      rw [impl_GetNum.l0, if_pos (by omega), hs2]
    by_cases hlt : at0 + i < l.length
    · have hd : 0 ≤ rd l (at0 + i) ∧ rd l (at0 + i) ≤ 255 := by
        have h : (at0 + i).toNat < l.length := by omega
        unfold rd
        rw [List.getD_eq_getElem?_getD, List.getElem?_eq_getElem h, Option.getD_some]
        exact hw _ (List.getElem_mem h)
      generalize hdd : rd l (at0 + i) = b at hd
      have hs6 : wrap64 b = b := w64 (by omega) (by omega)
      have hm : Int.tmod b 128 = b % 128 := Int.tmod_eq_emod_of_nonneg hd.1
      have hn : Go.bits .and .i64 b 127 = b % 128 := and_mask b 7 (by decide)
      have hsh := shl_to (b % 128) i (by omega) (by omega) hi5
      rw [hs4] at hsh
      have hp : (2 : Int) ^ (7 * i) ≤ 268435456 ∧ (1 : Int) ≤ 2 ^ (7 * i) := by
        have h : 2 ^ (7 * i) ≤ 268435456 := Nat.pow_le_pow_right (n := 2) (by decide) (show 7 * i ≤ 28 by omega)
        have h2 : 0 < 2 ^ (7 * i) := Nat.two_pow_pos _
        rw [show (2 : Int) ^ (7 * i) = ((2 ^ (7 * i) : Nat) : Int) by simp]
        omega
      have hmul0 : 0 ≤ b % 128 * 2 ^ (7 * i) := Int.mul_nonneg (by omega) (by omega)
      have hmul1 : b % 128 * 2 ^ (7 * i) ≤ 127 * 2 ^ (7 * i) := Int.mul_le_mul_of_nonneg_right (by omega) (by omega)
      have hpow : (2 : Int) ^ (7 * (i + 1)) = 128 * 2 ^ (7 * i) := by
        rw [show 7 * (i + 1) = 7 * i + 7 by omega, Int.pow_add, Int.mul_comm]
        rfl
      have hor : Go.bits .or .i64 n (b % 128 * 2 ^ (7 * i)) = n + b % 128 * 2 ^ (7 * i) :=
        or_high (7 * i) n _ h0 h1 hmul0 (Int.mul_emod_left _ _) (by rw [show (2 : Int) ^ 62 = 4611686018427387904 from rfl]; omega) (by rw [show (2 : Int) ^ 62 = 4611686018427387904 from rfl]; omega)
      obtain ⟨n', hn'⟩ : ∃ n', n' = n + b % 128 * 2 ^ (7 * i) := ⟨_, rfl⟩
      have hw' : wrap64 (n + b % 128 * 2 ^ (7 * i)) = n + b % 128 * 2 ^ (7 * i) := w64 (by omega) (by omega)
      rw [← hn'] at hor hw'
      have hs : ∀ k, spec_GetNum.j1 (k + 1) l at0 n i false = if b < 128 then (if (i : Int) > 0 then (if b = 0 then some (0, 0, false) else if n' > 2147483647 then some (0, 0, false) else some (n', at0 + i + 1, true)) else if n' > 2147483647 then some (0, 0, false) else some (n', at0 + i + 1, true)) else spec_GetNum.l0 k l at0 n' ((i + 1 : Nat) : Int) := by
        intro k
        rw [spec_GetNum.j1, if_neg (by decide), hs2, if_pos (by omega), if_pos (by omega), hs4, if_pos (by omega), hdd, hs6, hm, hsh, hor, hs5, hs3]
      have hi' : ∀ k, impl_GetNum.j1 (k + 1) l at0 n i true = if b > 127 then impl_GetNum.l0 k l at0 n' ((i + 1 : Nat) : Int) else if b = 0 then (if (i : Int) > 0 then some (0, 0, false) else if n' > 2147483647 then some (0, 0, false) else some (n', at0 + i + 1, true)) else if n' > 2147483647 then some (0, 0, false) else some (n', at0 + i + 1, true) := by
        intro k
        rw [impl_GetNum.j1, if_pos rfl, hs2, if_pos (by omega), if_pos (by omega), hs4, if_pos (by omega), hdd, hs6, hn, hsh, ← hn', hw', hs5, hs3]
      have e1 : decide (at0 ≥ (l.length : Int) - i) = false := decide_eq_false (by omega)
      have e2 : decide (at0 + i < (l.length : Int)) = true := decide_eq_true hlt
      rw [e1] at hspec
      rw [e2] at himpl
      by_cases hb128 : b < 128
      · refine ⟨if b = 0 ∧ (i : Int) > 0 then (0, 0, false) else if n' > 2147483647 then (0, 0, false) else (n', at0 + i + 1, true), Ev.step hspec (Ev.step hs (Ev.congr (fun k => ?_) (Ev.now _))), Ev.step himpl (Ev.step hi' (Ev.congr (fun k => ?_) (Ev.now _)))⟩
        · rw [if_pos hb128]
          by_cases c1 : b = 0 <;> by_cases c2 : (i : Int) > 0 <;> by_cases c3 : n' > 2147483647 <;> simp only [c1, c2, c3, if_true, if_false, and_true, true_and, and_false, false_and, and_self]
        · rw [if_neg (show ¬ b > 127 by omega)]
          by_cases c1 : b = 0 <;> by_cases c2 : (i : Int) > 0 <;> by_cases c3 : n' > 2147483647 <;> simp only [c1, c2, c3, if_true, if_false, and_true, true_and, and_false, false_and, and_self]
      · obtain ⟨r, g1, g2⟩ := ih (i + 1) n' (by omega) (by omega) (by rw [hpow]; omega)
        refine ⟨r, Ev.step hspec (Ev.step hs (Ev.congr (fun k => if_neg hb128) g1)), Ev.step himpl (Ev.step hi' (Ev.congr (fun k => if_pos (by omega)) g2))⟩
    · have e1 : decide (at0 ≥ (l.length : Int) - i) = true := decide_eq_true (by omega)
      have e2 : decide (at0 + i < (l.length : Int)) = false := decide_eq_false hlt
      rw [e1] at hspec
      rw [e2] at himpl
      refine ⟨(0, 0, false), Ev.step hspec (Ev.step (fun k => ?_) (Ev.now _)), Ev.step himpl (Ev.step (fun k => ?_) (Ev.now _))⟩
      · rw [spec_GetNum.j1, if_pos rfl]
      · rw [impl_GetNum.j1, if_neg (by decide)]

theorem get_both (l : List Int) (hl : l.length ≤ 1048576) (hw : ∀ x ∈ l, 0 ≤ x ∧ x ≤ 255) (a : Int) (h1 : -9223372036854775808 ≤ a) (h2 : a ≤ 9223372036854775807) :
    ∃ r, Ev (fun k => spec_GetNum.f k l a) r ∧ Ev (fun k => impl_GetNum.f k l a) r := by
  have hs1 : wrap64 ((l.length : Int) - 1) = l.length - 1 := w64 (by omega) (by omega)
  have hs0 : wrap64 ((l.length : Int) - 0) = l.length := by rw [w64 (by omega) (by omega)]; omega
  have him : ∀ k, impl_GetNum.f k l a = if 0 ≤ a ∧ a < l.length then impl_GetNum.l0 k l a 0 0 else some (0, 0, false) := by
    intro k
    rw [impl_GetNum.f, impl_within.f, hs1]
    by_cases c1 : 0 ≤ a
    · by_cases c2 : a < l.length
      · rw [if_pos c1, if_pos ⟨c1, c2⟩, decide_eq_true (by omega)]; rfl
      · rw [if_pos c1, if_neg (fun h => c2 h.2), decide_eq_false (by omega)]; rfl
    · rw [if_neg c1, if_neg (fun h => c1 h.1)]; rfl
  by_cases c : 0 ≤ a ∧ a < l.length
  · obtain ⟨r, g1, g2⟩ := get_same l hl hw a c.1 c.2 5 0 0 rfl (by omega) (by decide)
    exact ⟨r, Ev.congr (fun k => rfl) g1, Ev.congr (fun k => (him k).trans (if_pos c)) g2⟩
  · refine ⟨(0, 0, false), ?_, Ev.congr (fun k => (him k).trans (if_neg c)) (Ev.now _)⟩
    refine Ev.step (f := fun k => spec_GetNum.j1 k l a 0 0 true) (fun k => ?_) (Ev.step (fun k => ?_) (Ev.now _))
    · rw [spec_GetNum.f, spec_GetNum.l0, if_pos (by omega)]
      by_cases c1 : a < 0
      · rw [if_pos c1]
      · rw [if_neg c1, hs0, decide_eq_true (by omega)]
    · rw [spec_GetNum.j1, if_pos rfl]
end Go.Proofs.Ytmoaonpggckbiaa.PureGetNum
namespace Go.Proofs.Ytmoaonpggckbiaa.Pure
open Go.RowKit Go.Proofs.Ytmoaonpggckbiaa.PFnExactGetNum Go.Proofs.Ytmoaonpggckbiaa.Aid Go.Proofs.YtmoaonpggckbiaaW.PrintWords Go.Proofs.YtmoaonpggckbiaaW.PrintLast Go.Proofs.YtmoaonpggckbiaaW.PrintMore Go.Proofs.Ytmoaonpggckbiaa.PureGetNum
set_option linter.unusedVariables false
set_option linter.unusedSimpArgs false

theorem FnExactGetNum : WfFnExactGetNum.Pure := by
  intro l a hw0 ha
  have hw := hw0.2
  have ha' := of_wf_i64 ha
  have hw' : ∀ x ∈ l, 0 ≤ x ∧ x ≤ 255 := fun x hx => of_wf_u8 (hw x hx)
  refine Ev.rounds (g := fun k => laws_FnExactGetNum.f k l a) ?_
  by_cases hb : (l.length : Int) > 1048576
  · exact Ev.congr (fun k => by rw [laws_FnExactGetNum.f, if_pos hb]) (Ev.now _)
  · have ht := toByteS_ev l (by omega)
    obtain ⟨⟨r1, r2, r3⟩, g1, g2⟩ := get_both l (by omega) hw' a ha'.1 ha'.2
    refine Ev.congr (fun k => by rw [laws_FnExactGetNum.f, if_neg hb]) ?_
    refine Ev.bind ht (Ev.bind g1 (Ev.bind ht (Ev.bind g2 ?_)))
    simp only [if_true, bne_self_eq_false]
    refine Ev.step (fun k => by rw [laws_FnExactGetNum.j0]) ?_
    simp only [Bool.false_eq_true, if_false]
    refine Ev.bind ht (Ev.bind (eqByteS_refl l (by omega)) ?_)
    simp only [if_true]
    exact Ev.now _

end Go.Proofs.Ytmoaonpggckbiaa.Pure
