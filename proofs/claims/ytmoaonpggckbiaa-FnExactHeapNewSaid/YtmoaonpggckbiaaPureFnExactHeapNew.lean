/- For every whole number the program's HeapNew returns the heap that the reference's returns, in memory of its own. No conditions. -/
import Derived.Test.YtmoaonpggckbiaaPFnExactHeapNewx2
import Derived.Test.YtmoaonpggckbiaaAid
namespace Go.Proofs.Ytmoaonpggckbiaa.PureHeapNew
open Go.RowKit Go.Proofs.Ytmoaonpggckbiaa.PFnExactHeapNew Go.Proofs.Ytmoaonpggckbiaa.Aid Go.Proofs.YtmoaonpggckbiaaW.PrintWords Go.Proofs.YtmoaonpggckbiaaW.PrintLast Go.Proofs.YtmoaonpggckbiaaW.PrintMore
set_option linter.unusedVariables false
set_option linter.unusedSimpArgs false

theorem eqIntS_refl (l : List Int) (hl : l.length ≤ 4611686018427387904) : Ev (fun k => laws_eqIntS.f k l l) true := by
  have key : ∀ (d : Nat) (i : Int), 0 ≤ i → (l.length : Int) - i = d → Ev (fun k => laws_eqIntS.l0 k l l i) true := by
    intro d
    induction d with
    | zero =>
      intro i h0 hd
      exact Ev.step (fun k => by rw [laws_eqIntS.l0, if_neg (by omega)]) (Ev.now _)
    | succ d ih =>
      intro i h0 hd
      refine Ev.step (f := fun k => laws_eqIntS.l0 k l l (i + 1)) (fun k => ?_) (ih (i + 1) (by omega) (by omega))
      rw [laws_eqIntS.l0, if_pos (by omega), if_pos h0, if_pos (by omega), if_pos rfl, w64 (by omega) (by omega)]
  refine Ev.congr (fun k => ?_) (key l.length 0 (by omega) (by omega))
  unfold laws_eqIntS.f; rw [if_pos rfl]

theorem markIntS_ev (l : List Int) (m : Int) (hm : 0 ≤ m) (hl : m + l.length ≤ 4611686018427387904) : Ev (fun k => laws_markIntS.f k l m) (m + l.length, iota m l.length) := by
  have key : ∀ (d : Nat) (xs : List Int) (i : Nat), i + d = xs.length → m + xs.length ≤ 4611686018427387904 → Ev (fun k => laws_markIntS.l0 k xs (m + i) i) (m + xs.length, xs.take i ++ iota (m + i) d) := by
    intro d
    induction d with
    | zero =>
      intro xs i h hb
      have e : ((m + (xs.length : Int), xs.take i ++ iota (m + i) 0) : Int × List Int) = (m + (i : Int), xs) := by
        rw [iota, List.append_nil, List.take_of_length_le (by omega), show xs.length = i by omega]
      rw [e]
      exact Ev.step (fun k => by rw [laws_markIntS.l0, if_neg (by omega)]) (Ev.now _)
    | succ d ih =>
      intro xs i h hb
      have h1 := ih (xs.set i (m + i)) (i + 1) (by rw [List.length_set]; omega) (by rw [List.length_set]; omega)
      rw [List.length_set, set_take_append _ _ _ (by omega), show (m + ((i + 1 : Nat) : Int)) = m + i + 1 by omega] at h1
      rw [show iota (m + i) (d + 1) = (m + i) :: iota (m + i + 1) d from rfl]
      refine Ev.step (fun k => ?_) h1
      rw [laws_markIntS.l0, if_pos (by omega), if_pos (by omega), w64 (by omega) (by omega), w64 (by omega) (by omega), Int.toNat_natCast, show ((i : Int) + 1) = ((i + 1 : Nat) : Int) by omega]
  have h := key l.length l 0 (by omega) hl
  simp only [List.take_zero, List.nil_append, Int.natCast_zero, Int.add_zero] at h
  exact Ev.congr (fun k => rfl) h

theorem heldIntS_ev (m : Int) (n : Nat) (hm : 0 ≤ m) (hl : m + n ≤ 4611686018427387904) : Ev (fun k => laws_heldIntS.f k (iota m n) m) (m + n) := by
  have key : ∀ (d : Nat) (ys : List Int) (i : Nat), ys.drop i = iota (m + i) d → i + d = ys.length → m + ys.length ≤ 4611686018427387904 → Ev (fun k => laws_heldIntS.l0 k ys (m + i) i) (m + ys.length) := by
    intro d
    induction d with
    | zero =>
      intro ys i hd h hb
      rw [show (ys.length : Int) = i by omega]
      exact Ev.step (fun k => by rw [laws_heldIntS.l0, if_neg (by omega)]) (Ev.now _)
    | succ d ih =>
      intro ys i hd h hb
      have hr : rd ys (i : Int) = m + i := rd_drop (by omega) (by rw [Int.toNat_natCast]; exact hd)
      have h1 := ih ys (i + 1) (by
        have h2 := congrArg List.tail hd
        rw [List.tail_drop] at h2
        rw [h2, show (m + ((i + 1 : Nat) : Int)) = m + i + 1 by omega]
        rfl) (by omega) hb
      rw [show (m + ((i + 1 : Nat) : Int)) = m + i + 1 by omega] at h1
      refine Ev.step (fun k => ?_) h1
      rw [laws_heldIntS.l0, if_pos (by omega), if_pos (by omega), if_pos hr, w64 (by omega) (by omega), w64 (by omega) (by omega), show ((i : Int) + 1) = ((i + 1 : Nat) : Int) by omega]
  have h := key n (iota m n) 0 (by simp) (by simp [iota_length]) (by rw [iota_length]; exact hl)
  simp only [Int.natCast_zero, Int.add_zero, iota_length] at h
  exact Ev.congr (fun k => rfl) h

theorem new_both (x : Int) : ∃ ws h b n ok, ws.length ≤ 6000 ∧ spec_HeapNew.f x = some (ws, h, b, n, ok) ∧ impl_HeapNew.f x = some (ws, h, b, n, ok) := by
  by_cases h : 1 ≤ x ∧ x ≤ 3000
  · have hw : wrap64 (2 * x) = 2 * x := w64 (by omega) (by omega)
    refine ⟨List.replicate (2 * x).toNat 0, x, 0, 0, true, by simp; omega, ?_, ?_⟩
    · have h3 : 0 ≤ 2 * x := by omega
      have h4 : (2 * x).toNat ≤ 35184372088832 := by omega
      simp only [spec_HeapNew.f, spec_l1In.f, ge_iff_le, if_pos h.1, hw, decide_eq_true h.2, Option.bind_some, if_true, if_pos h3, if_pos h4]
    · have h3 : 0 ≤ 2 * x := by omega
      have h4 : (2 * x).toNat ≤ 35184372088832 := by omega
      simp only [impl_HeapNew.f, impl_within.f, ge_iff_le, if_pos h.1, hw, decide_eq_true h.2, Option.bind_some, if_true, if_pos h3, if_pos h4]
  · refine ⟨[], 0, 0, 0, false, by simp, ?_, ?_⟩
    · by_cases c : 1 ≤ x
      · have : ¬ x ≤ 3000 := fun hh => h ⟨c, hh⟩
        simp [spec_HeapNew.f, spec_l1In.f, c, this]
      · simp [spec_HeapNew.f, spec_l1In.f, c]
    · by_cases c : 1 ≤ x
      · have : ¬ x ≤ 3000 := fun hh => h ⟨c, hh⟩
        simp [impl_HeapNew.f, impl_within.f, c, this]
      · simp [impl_HeapNew.f, impl_within.f, c]

theorem eqHeap_refl (l : List Int) (hl : l.length ≤ 4611686018427387904) (h b n : Int) : Ev (fun k => laws_eqHeap.f k l h b n l h b n) true := by
  unfold laws_eqHeap.f
  refine Ev.bind (eqIntS_refl l hl) ?_
  simp only [if_true]
  exact Ev.now _
theorem markHeap_ev (l : List Int) (hl : l.length ≤ 4611686018427387000) (h b n : Int) : Ev (fun k => laws_markHeap.f k l h b n 1) (1 + (l.length : Int), iota 1 l.length) := by
  unfold laws_markHeap.f
  refine Ev.bind (markIntS_ev l 1 (by omega) (by omega)) ?_
  exact Ev.now _
theorem heldHeap_ev (m : Nat) (hl : m ≤ 4611686018427387000) (h b n : Int) : Ev (fun k => laws_heldHeap.f k (iota 1 m) h b n 1) (1 + (m : Int)) := by
  unfold laws_heldHeap.f
  refine Ev.bind (heldIntS_ev 1 m (by omega) (by omega)) ?_
  refine Ev.congr (fun k => if_neg (by omega)) ?_
  exact Ev.now _
end Go.Proofs.Ytmoaonpggckbiaa.PureHeapNew
namespace Go.Proofs.Ytmoaonpggckbiaa.Pure
open Go.RowKit Go.Proofs.Ytmoaonpggckbiaa.PFnExactHeapNew Go.Proofs.Ytmoaonpggckbiaa.Aid Go.Proofs.YtmoaonpggckbiaaW.PrintWords Go.Proofs.YtmoaonpggckbiaaW.PrintLast Go.Proofs.YtmoaonpggckbiaaW.PrintMore Go.Proofs.Ytmoaonpggckbiaa.PureHeapNew
set_option linter.unusedVariables false
set_option linter.unusedSimpArgs false

theorem FnExactHeapNew : laws_FnExactHeapNew.Pure := by
  intro a0 _
  obtain ⟨ws, h, b, n, ok, hl, h1, h2⟩ := new_both a0
  have he := eqHeap_refl ws (by omega) h b n
  have hm := markHeap_ev ws (by omega) h b n
  have hh := heldHeap_ev ws.length (by omega) h b n
  refine Ev.rounds (g := fun k => laws_FnExactHeapNew.f k a0) ?_
  unfold laws_FnExactHeapNew.f
  simp only [h1, h2, Option.bind_some]
  refine Ev.bind he ?_
  simp only [if_true, bne_self_eq_false]
  refine Ev.step (fun k => by rw [laws_FnExactHeapNew.j0]) ?_
  simp only [h2, Option.bind_some, Bool.false_eq_true, if_false]
  refine Ev.bind hm (Ev.bind hh ?_)
  refine Ev.congr (fun k => if_neg (by omega)) ?_
  refine Ev.congr (fun k => if_pos rfl) ?_
  refine Ev.bind he ?_
  simp only [if_true, bne_self_eq_false]
  refine Ev.step (fun k => by rw [laws_FnExactHeapNew.j1]) ?_
  simp only [Bool.false_eq_true, if_false]
  refine Ev.bind hh ?_
  refine Ev.congr (fun k => if_neg (by omega)) ?_
  refine Ev.congr (fun k => if_pos rfl) ?_
  exact Ev.now _

end Go.Proofs.Ytmoaonpggckbiaa.Pure
