/- For every whole number the program's PutNum returns the bytes that the reference's returns, in memory of its own. No conditions. -/
import Derived.Test.YtmoaonpggckbiaaPFnExactPutNumx1
import Derived.Test.YtmoaonpggckbiaaAid
namespace Go.Proofs.Ytmoaonpggckbiaa.PurePutNum
open Go.RowKit Go.Proofs.Ytmoaonpggckbiaa.PFnExactPutNum Go.Proofs.Ytmoaonpggckbiaa.Aid Go.Proofs.YtmoaonpggckbiaaW.PrintWords Go.Proofs.YtmoaonpggckbiaaW.PrintLast Go.Proofs.YtmoaonpggckbiaaW.PrintMore
set_option linter.unusedVariables false
set_option linter.unusedSimpArgs false

theorem eqByteS_refl (l : List Int) (hl : l.length ≤ 4611686018427387904) : Ev (fun k => laws_eqByteS.f k l l) true := by
  have key : ∀ (d : Nat) (i : Int), 0 ≤ i → (l.length : Int) - i = d → Ev (fun k => laws_eqByteS.l0 k l l i) true := by
    intro d
    induction d with
    | zero =>
      intro i h0 hd
      exact Ev.step (fun k => by rw [laws_eqByteS.l0, if_neg (by omega)]) (Ev.now _)
    | succ d ih =>
      intro i h0 hd
      refine Ev.step (f := fun k => laws_eqByteS.l0 k l l (i + 1)) (fun k => ?_) (ih (i + 1) (by omega) (by omega))
      rw [laws_eqByteS.l0, if_pos (by omega), if_pos h0, if_pos (by omega), if_pos rfl, w64 (by omega) (by omega)]
  refine Ev.congr (fun k => ?_) (key l.length 0 (by omega) (by omega))
  unfold laws_eqByteS.f; rw [if_pos rfl]

theorem markByteS_ev (l : List Int) (m : Int) (hm : 0 ≤ m) (hl : m + l.length ≤ 4611686018427387904) : Ev (fun k => laws_markByteS.f k l m) (m + l.length, iota8 m l.length) := by
  have key : ∀ (d : Nat) (xs : List Int) (i : Nat), i + d = xs.length → m + xs.length ≤ 4611686018427387904 → Ev (fun k => laws_markByteS.l0 k xs (m + i) i) (m + xs.length, xs.take i ++ iota8 (m + i) d) := by
    intro d
    induction d with
    | zero =>
      intro xs i h hb
      have e : ((m + (xs.length : Int), xs.take i ++ iota8 (m + i) 0) : Int × List Int) = (m + (i : Int), xs) := by
        rw [iota8, List.append_nil, List.take_of_length_le (by omega), show xs.length = i by omega]
      rw [e]
      exact Ev.step (fun k => by rw [laws_markByteS.l0, if_neg (by omega)]) (Ev.now _)
    | succ d ih =>
      intro xs i h hb
      have h1 := ih (xs.set i ((m + i) % 256)) (i + 1) (by rw [List.length_set]; omega) (by rw [List.length_set]; omega)
      rw [List.length_set, set_take_append _ _ _ (by omega), show (m + ((i + 1 : Nat) : Int)) = m + i + 1 by omega] at h1
      rw [show iota8 (m + i) (d + 1) = ((m + i) % 256) :: iota8 (m + i + 1) d from rfl]
      refine Ev.step (fun k => ?_) h1
      rw [laws_markByteS.l0, if_pos (by omega), if_pos (by omega), w64 (by omega) (by omega), w64 (by omega) (by omega), Int.toNat_natCast, show ((i : Int) + 1) = ((i + 1 : Nat) : Int) by omega]
  have h := key l.length l 0 (by omega) hl
  simp only [List.take_zero, List.nil_append, Int.natCast_zero, Int.add_zero] at h
  exact Ev.congr (fun k => rfl) h

theorem heldByteS_ev (m : Int) (n : Nat) (hm : 0 ≤ m) (hl : m + n ≤ 4611686018427387904) : Ev (fun k => laws_heldByteS.f k (iota8 m n) m) (m + n) := by
  have key : ∀ (d : Nat) (ys : List Int) (i : Nat), ys.drop i = iota8 (m + i) d → i + d = ys.length → m + ys.length ≤ 4611686018427387904 → Ev (fun k => laws_heldByteS.l0 k ys (m + i) i) (m + ys.length) := by
    intro d
    induction d with
    | zero =>
      intro ys i hd h hb
      rw [show (ys.length : Int) = i by omega]
      exact Ev.step (fun k => by rw [laws_heldByteS.l0, if_neg (by omega)]) (Ev.now _)
    | succ d ih =>
      intro ys i hd h hb
      have hr : rd ys (i : Int) = (m + i) % 256 := rd_drop (by omega) (by rw [Int.toNat_natCast]; exact hd)
      have h1 := ih ys (i + 1) (by
        have h2 := congrArg List.tail hd
        rw [List.tail_drop] at h2
        rw [h2, show (m + ((i + 1 : Nat) : Int)) = m + i + 1 by omega]
        rfl) (by omega) hb
      rw [show (m + ((i + 1 : Nat) : Int)) = m + i + 1 by omega] at h1
      refine Ev.step (fun k => ?_) h1
      rw [laws_heldByteS.l0, if_pos (by omega), if_pos (by omega), if_pos hr, w64 (by omega) (by omega), w64 (by omega) (by omega), show ((i : Int) + 1) = ((i + 1 : Nat) : Int) by omega]
  have h := key n (iota8 m n) 0 (by simp) (by simp [iota8_length]) (by rw [iota8_length]; exact hl)
  simp only [Int.natCast_zero, Int.add_zero, iota8_length] at h
  exact Ev.congr (fun k => rfl) h

/-- The bytes of a number. -/
theorem put_same : ∀ (d : Nat) (x : Int) (l : List Int), 0 ≤ x → x < 2147483648 → x < 128 ^ (d + 1) → l.length + d < 100 →
    ∃ r, r.length < 200 ∧ Ev (fun k => spec_PutNum.l0 k x l) r ∧ Ev (fun k => impl_PutNum.l0 k x l) r := by
  intro d
  induction d with
  | zero =>
    intro x l h0 h1 hx hl
    refine ⟨l ++ [x % 256], by simp; omega, Ev.step (fun k => ?_) (Ev.now _), Ev.step (fun k => ?_) (Ev.now _)⟩
    · rw [spec_PutNum.l0, if_neg (by omega), if_pos (by omega)]
    · rw [impl_PutNum.l0, if_neg (by omega), if_pos (by omega)]
  | succ d ih =>
    intro x l h0 h1 hx hl
    by_cases hb : x > 127
    · have hd : x / 128 < 128 ^ (d + 1) := by
        rw [Int.pow_succ] at hx
        exact Int.ediv_lt_of_lt_mul (by decide) hx
      obtain ⟨r, hr, h2, h3⟩ := ih (x / 128) (l ++ [(x % 128 + 128) % 256]) (by omega) (by omega) hd (by simp; omega)
      have ht : Int.tdiv x 128 = x / 128 := Int.tdiv_eq_ediv_of_nonneg h0
      have hm : Int.tmod x 128 = x % 128 := Int.tmod_eq_emod_of_nonneg h0
      have ha : Go.bits .and .i64 x 127 = x % 128 := and_mask x 7 (by decide)
      refine ⟨r, hr, Ev.step (fun k => ?_) h2, Ev.step (fun k => ?_) h3⟩
      · rw [spec_PutNum.l0, if_pos hb, if_pos (by omega), ht, hm, w64 (by omega) (by omega), w64 (by omega) (by omega)]
      · rw [impl_PutNum.l0, if_pos hb, if_pos (by omega), ha, w64 (by omega) (by omega)]
    · refine ⟨l ++ [x % 256], by simp; omega, Ev.step (fun k => ?_) (Ev.now _), Ev.step (fun k => ?_) (Ev.now _)⟩
      · rw [spec_PutNum.l0, if_neg hb, if_pos (by omega)]
      · rw [impl_PutNum.l0, if_neg hb, if_pos (by omega)]

theorem put_both (x : Int) : ∃ r, r.length < 200 ∧ Ev (fun k => spec_PutNum.f k x) r ∧ Ev (fun k => impl_PutNum.f k x) r := by
  by_cases h : 0 ≤ x ∧ x ≤ 2147483647
  · obtain ⟨r, hr, h1, h2⟩ := put_same 9 x [] h.1 (by omega) (by omega) (by simp)
    refine ⟨r, hr, Ev.congr (fun k => ?_) h1, Ev.congr (fun k => ?_) h2⟩
    · simp [spec_PutNum.f, spec_l1In.f, h.1, h.2]
    · simp [impl_PutNum.f, impl_within.f, h.1, h.2]
  · refine ⟨[], by simp, Ev.congr (fun k => ?_) (Ev.now _), Ev.congr (fun k => ?_) (Ev.now _)⟩
    · by_cases c : 0 ≤ x
      · have : ¬ x ≤ 2147483647 := fun hh => h ⟨c, hh⟩
        simp [spec_PutNum.f, spec_l1In.f, c, this]
      · simp [spec_PutNum.f, spec_l1In.f, c]
    · by_cases c : 0 ≤ x
      · have : ¬ x ≤ 2147483647 := fun hh => h ⟨c, hh⟩
        simp [impl_PutNum.f, impl_within.f, c, this]
      · simp [impl_PutNum.f, impl_within.f, c]
end Go.Proofs.Ytmoaonpggckbiaa.PurePutNum
namespace Go.Proofs.Ytmoaonpggckbiaa.Pure
open Go.RowKit Go.Proofs.Ytmoaonpggckbiaa.PFnExactPutNum Go.Proofs.Ytmoaonpggckbiaa.Aid Go.Proofs.YtmoaonpggckbiaaW.PrintWords Go.Proofs.YtmoaonpggckbiaaW.PrintLast Go.Proofs.YtmoaonpggckbiaaW.PrintMore Go.Proofs.Ytmoaonpggckbiaa.PurePutNum
set_option linter.unusedVariables false
set_option linter.unusedSimpArgs false

theorem FnExactPutNum : laws_FnExactPutNum.Pure := by
  intro a0 _
  obtain ⟨r, hr, h1, h2⟩ := put_both a0
  have he := eqByteS_refl r (by omega)
  have hm := markByteS_ev r 1 (by omega) (by omega)
  have hh := heldByteS_ev 1 r.length (by omega) (by omega)
  refine Ev.rounds (g := fun k => laws_FnExactPutNum.f k a0) ?_
  unfold laws_FnExactPutNum.f
  refine Ev.bind h1 (Ev.bind h2 (Ev.bind he ?_))
  simp only [if_true]
  refine Ev.bind hm (Ev.bind hh ?_)
  refine Ev.congr (fun k => if_neg (by omega)) ?_
  refine Ev.congr (fun k => if_pos rfl) ?_
  refine Ev.bind h2 (Ev.bind he ?_)
  simp only [if_true]
  refine Ev.bind hh ?_
  refine Ev.congr (fun k => if_neg (by omega)) ?_
  refine Ev.congr (fun k => if_pos rfl) ?_
  exact Ev.now _

end Go.Proofs.Ytmoaonpggckbiaa.Pure
