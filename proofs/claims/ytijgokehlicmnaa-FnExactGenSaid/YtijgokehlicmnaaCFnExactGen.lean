/- What functions of the program and of the reference come to, for the law FnExactGen. Each under the conditions that it names. -/
import Derived.Test.YtijgokehlicmnaaBFnExactGen
namespace Go.Proofs.Ytijgokehlicmnaa.GFnExactGen
open Go Go.Rsc Go.Proofs.Ytijgokehlicmnaa
set_option maxRecDepth 100000
set_option linter.unusedVariables false
set_option linter.unusedSimpArgs false
section
variable {l ks : List PV} {at_ : Nat} {op n deep : Int} {all : Bool}
theorem free_at (hf : ∀ q, q ∈ l → ∃ (f : Int) (b : PV), q = .agg [.int f, b]) {i : Nat} (hi : i < l.length) : (nth l i).fld 0 = .int (frB l i) := by
  obtain ⟨f, b, e⟩ := hf _ (nth_mem hi)
  simp [frB, e]
set_option maxHeartbeats 4000000 in
theorem node90 (hl : l.length ≤ 1048576) (hf : ∀ q, q ∈ l → ∃ (f : Int) (b : PV), q = .agg [.int f, b]) (ha : at_ < l.length)
    (hloop : Evt fun k => loopEv (L178_0 (ev Try.prog sg k) k) k [.int 0, .int deep, .int at_, .list l, .agg [.int op, .int n, .list ks]] = if all then some (.x 0, [.int deep, .int at_, .list l, .agg [.int op, .int n, .list ks]]) else some (.r, [.bool false])) :
    Rn 178 [.list l, .int at_, .agg [.int op, .int n, .list ks], .int deep] [.bool (arB op ks.length && (all && rtB l at_ op n ks.length deep))] := by
  refine Is.of e178 ((Evt.and (arS_is op) (is51 op 1 19)).mp3 hloop (Evt.and (is101 n) (Evt.and (is51 n 0 (IntKind.i64.wrap (deep - 1))) (Evt.and (is51 n 0 (IntKind.i64.wrap (frB l at_ - 1))) (Evt.and (is51 n 1 (IntKind.i64.wrap (l.length - 1))) (is51 n 0 1073741823))))) fun k ⟨q0, q1⟩ q2 ⟨q3, q4, q5, q6, q7⟩ => ?_)
  cases h1 : okR op 1 19 with
  | false => simp [F178, q0, q1, h1, arB]
  | true =>
  cases h2 : geI (arS op) 0 && neI ks.length (arS op) with
  | true =>
    simp only [Bool.and_eq_true] at h2
    simp [F178, q0, q1, h1, arB, h2.1, h2.2]
  | false =>
  have hA : arB op ks.length = true := by simp [arB, h1, h2]
  rw [hA, Bool.true_and]
  have hfa : ((nth l at_).fld 0).toInt = frB l at_ := rfl
  have h34 : geI (arS op) 0 = false ∨ (geI (arS op) 0 = true ∧ neI ks.length (arS op) = false) := by
    cases h3 : geI (arS op) 0
    · exact .inl rfl
    · rw [h3, Bool.true_and] at h2; exact .inr ⟨rfl, h2⟩
  cases all with
  | false =>
    rw [Bool.false_and]
    rcases h34 with h3 | ⟨h3, h4⟩
    · have h4 : True := trivial
      simp (disch := omega) only [F178, nth_0, nth_1, nth_2, nth_3, nth_4, nth_5, fld_agg, toInt_int, toList_list, toBool_bool, Int.toNat_natCast, q0, q1, q2, q3, q4, q5, q7, h1, h3, h4, hfa, Option.bind_some, gtT, gtF, geT, geF, ltT, eqT, eqF, iff_true', iff_false', selB_true, selB_false, isB_bool, beqT, beqF, Bool.not_true, Bool.not_false, beq_self_eq_true, thenN_n, thenN_r, thenE_some, passB_same, passB_r, passE_eq, retE_r, if_true, if_false, Bool.false_eq_true]
    · simp (disch := omega) only [F178, nth_0, nth_1, nth_2, nth_3, nth_4, nth_5, fld_agg, toInt_int, toList_list, toBool_bool, Int.toNat_natCast, q0, q1, q2, q3, q4, q5, q7, h1, h3, h4, hfa, Option.bind_some, gtT, gtF, geT, geF, ltT, eqT, eqF, iff_true', iff_false', selB_true, selB_false, isB_bool, beqT, beqF, Bool.not_true, Bool.not_false, beq_self_eq_true, thenN_n, thenN_r, thenE_some, passB_same, passB_r, passE_eq, retE_r, if_true, if_false, Bool.false_eq_true]
  | true =>
  rw [Bool.true_and]
  have fin : ∀ b, rtB l at_ op n ks.length deep = b → F178 (ev Try.prog sg k) k [.list l, .int at_, .agg [.int op, .int n, .list ks], .int deep] = some [.bool b] := fun b hb => by
    unfold rtB at hb
    by_cases x1 : op = 1 ∨ op = 18
    · rw [if_pos x1] at hb; subst hb
      rcases h34 with h3 | ⟨h3, h4⟩
      · have h4 : True := trivial
        rcases x1 with rfl | rfl <;> simp (disch := omega) only [F178, nth_0, nth_1, nth_2, nth_3, nth_4, nth_5, fld_agg, toInt_int, toList_list, toBool_bool, Int.toNat_natCast, q0, q1, q2, q3, q4, q5, q7, h1, h3, h4, hfa, Option.bind_some, gtT, gtF, geT, geF, ltT, eqT, eqF, iff_true', iff_false', selB_true, selB_false, isB_bool, beqT, beqF, Bool.not_true, Bool.not_false, beq_self_eq_true, thenN_n, thenN_r, thenE_some, passB_same, passB_r, passE_eq, retE_r, if_true, if_false, Bool.false_eq_true]
      · rcases x1 with rfl | rfl <;> simp (disch := omega) only [F178, nth_0, nth_1, nth_2, nth_3, nth_4, nth_5, fld_agg, toInt_int, toList_list, toBool_bool, Int.toNat_natCast, q0, q1, q2, q3, q4, q5, q7, h1, h3, h4, hfa, Option.bind_some, gtT, gtF, geT, geF, ltT, eqT, eqF, iff_true', iff_false', selB_true, selB_false, isB_bool, beqT, beqF, Bool.not_true, Bool.not_false, beq_self_eq_true, thenN_n, thenN_r, thenE_some, passB_same, passB_r, passE_eq, retE_r, if_true, if_false, Bool.false_eq_true]
    rw [if_neg x1] at hb
    by_cases x2 : op = 2
    · rw [if_pos x2] at hb; subst hb
      rcases h34 with h3 | ⟨h3, h4⟩
      · have h4 : True := trivial
        simp (disch := omega) only [F178, nth_0, nth_1, nth_2, nth_3, nth_4, nth_5, fld_agg, toInt_int, toList_list, toBool_bool, Int.toNat_natCast, q0, q1, q2, q3, q4, q5, q7, h1, h3, h4, hfa, Option.bind_some, gtT, gtF, geT, geF, ltT, eqT, eqF, iff_true', iff_false', selB_true, selB_false, isB_bool, beqT, beqF, Bool.not_true, Bool.not_false, beq_self_eq_true, thenN_n, thenN_r, thenE_some, passB_same, passB_r, passE_eq, retE_r, if_true, if_false, Bool.false_eq_true]
      · simp (disch := omega) only [F178, nth_0, nth_1, nth_2, nth_3, nth_4, nth_5, fld_agg, toInt_int, toList_list, toBool_bool, Int.toNat_natCast, q0, q1, q2, q3, q4, q5, q7, h1, h3, h4, hfa, Option.bind_some, gtT, gtF, geT, geF, ltT, eqT, eqF, iff_true', iff_false', selB_true, selB_false, isB_bool, beqT, beqF, Bool.not_true, Bool.not_false, beq_self_eq_true, thenN_n, thenN_r, thenE_some, passB_same, passB_r, passE_eq, retE_r, if_true, if_false, Bool.false_eq_true]
    rw [if_neg x2] at hb
    by_cases x3 : op = 3
    · rw [if_pos x3] at hb; subst hb
      rcases h34 with h3 | ⟨h3, h4⟩
      · have h4 : True := trivial
        simp (disch := omega) only [F178, nth_0, nth_1, nth_2, nth_3, nth_4, nth_5, fld_agg, toInt_int, toList_list, toBool_bool, Int.toNat_natCast, q0, q1, q2, q3, q4, q5, q7, h1, h3, h4, hfa, Option.bind_some, gtT, gtF, geT, geF, ltT, eqT, eqF, iff_true', iff_false', selB_true, selB_false, isB_bool, beqT, beqF, Bool.not_true, Bool.not_false, beq_self_eq_true, thenN_n, thenN_r, thenE_some, passB_same, passB_r, passE_eq, retE_r, if_true, if_false, Bool.false_eq_true]
      · simp (disch := omega) only [F178, nth_0, nth_1, nth_2, nth_3, nth_4, nth_5, fld_agg, toInt_int, toList_list, toBool_bool, Int.toNat_natCast, q0, q1, q2, q3, q4, q5, q7, h1, h3, h4, hfa, Option.bind_some, gtT, gtF, geT, geF, ltT, eqT, eqF, iff_true', iff_false', selB_true, selB_false, isB_bool, beqT, beqF, Bool.not_true, Bool.not_false, beq_self_eq_true, thenN_n, thenN_r, thenE_some, passB_same, passB_r, passE_eq, retE_r, if_true, if_false, Bool.false_eq_true]
    rw [if_neg x3] at hb
    by_cases x4 : op = 4
    · rw [if_pos x4] at hb; subst hb
      cases h5 : eqI n 0 <;> rcases h34 with h3 | ⟨h3, h4⟩
      · have h4 : True := trivial
        simp (disch := omega) only [F178, nth_0, nth_1, nth_2, nth_3, nth_4, nth_5, fld_agg, toInt_int, toList_list, toBool_bool, Int.toNat_natCast, q0, q1, q2, q3, q4, q5, q7, h1, h3, h4, hfa, Option.bind_some, gtT, gtF, geT, geF, ltT, eqT, eqF, iff_true', iff_false', selB_true, selB_false, isB_bool, beqT, beqF, Bool.not_true, Bool.not_false, beq_self_eq_true, thenN_n, thenN_r, thenE_some, passB_same, passB_r, passE_eq, retE_r, if_true, if_false, Bool.false_eq_true, h5] <;> rfl
      · simp (disch := omega) only [F178, nth_0, nth_1, nth_2, nth_3, nth_4, nth_5, fld_agg, toInt_int, toList_list, toBool_bool, Int.toNat_natCast, q0, q1, q2, q3, q4, q5, q7, h1, h3, h4, hfa, Option.bind_some, gtT, gtF, geT, geF, ltT, eqT, eqF, iff_true', iff_false', selB_true, selB_false, isB_bool, beqT, beqF, Bool.not_true, Bool.not_false, beq_self_eq_true, thenN_n, thenN_r, thenE_some, passB_same, passB_r, passE_eq, retE_r, if_true, if_false, Bool.false_eq_true, h5] <;> rfl
      · have h4 : True := trivial
        simp (disch := omega) only [F178, nth_0, nth_1, nth_2, nth_3, nth_4, nth_5, fld_agg, toInt_int, toList_list, toBool_bool, Int.toNat_natCast, q0, q1, q2, q3, q4, q5, q7, h1, h3, h4, hfa, Option.bind_some, gtT, gtF, geT, geF, ltT, eqT, eqF, iff_true', iff_false', selB_true, selB_false, isB_bool, beqT, beqF, Bool.not_true, Bool.not_false, beq_self_eq_true, thenN_n, thenN_r, thenE_some, passB_same, passB_r, passE_eq, retE_r, if_true, if_false, Bool.false_eq_true, h5] <;> rfl
      · simp (disch := omega) only [F178, nth_0, nth_1, nth_2, nth_3, nth_4, nth_5, fld_agg, toInt_int, toList_list, toBool_bool, Int.toNat_natCast, q0, q1, q2, q3, q4, q5, q7, h1, h3, h4, hfa, Option.bind_some, gtT, gtF, geT, geF, ltT, eqT, eqF, iff_true', iff_false', selB_true, selB_false, isB_bool, beqT, beqF, Bool.not_true, Bool.not_false, beq_self_eq_true, thenN_n, thenN_r, thenE_some, passB_same, passB_r, passE_eq, retE_r, if_true, if_false, Bool.false_eq_true, h5] <;> rfl
    rw [if_neg x4] at hb
    by_cases x5 : op = 5
    · rw [if_pos x5] at hb; subst hb
      cases h5 : okR n 1 (IntKind.i64.wrap (l.length - 1)) with
      | false =>
        rw [Bool.false_and]
        rcases h34 with h3 | ⟨h3, h4⟩
        · have h4 : True := trivial
          simp (disch := omega) only [F178, nth_0, nth_1, nth_2, nth_3, nth_4, nth_5, fld_agg, toInt_int, toList_list, toBool_bool, Int.toNat_natCast, q0, q1, q2, q3, q4, q5, q7, h1, h3, h4, hfa, Option.bind_some, gtT, gtF, geT, geF, ltT, eqT, eqF, iff_true', iff_false', selB_true, selB_false, isB_bool, beqT, beqF, Bool.not_true, Bool.not_false, beq_self_eq_true, thenN_n, thenN_r, thenE_some, passB_same, passB_r, passE_eq, retE_r, if_true, if_false, Bool.false_eq_true, q6, h5]
        · simp (disch := omega) only [F178, nth_0, nth_1, nth_2, nth_3, nth_4, nth_5, fld_agg, toInt_int, toList_list, toBool_bool, Int.toNat_natCast, q0, q1, q2, q3, q4, q5, q7, h1, h3, h4, hfa, Option.bind_some, gtT, gtF, geT, geF, ltT, eqT, eqF, iff_true', iff_false', selB_true, selB_false, isB_bool, beqT, beqF, Bool.not_true, Bool.not_false, beq_self_eq_true, thenN_n, thenN_r, thenE_some, passB_same, passB_r, passE_eq, retE_r, if_true, if_false, Bool.false_eq_true, q6, h5]
      | true =>
        have hr := okR_in h5
        rw [wrap_len l hl] at hr
        have hfn : ((nth l n.toNat).fld 0).toInt = frB l n.toNat := rfl
        rw [Bool.true_and]
        rcases h34 with h3 | ⟨h3, h4⟩
        · have h4 : True := trivial
          simp (disch := omega) only [F178, nth_0, nth_1, nth_2, nth_3, nth_4, nth_5, fld_agg, toInt_int, toList_list, toBool_bool, Int.toNat_natCast, q0, q1, q2, q3, q4, q5, q7, h1, h3, h4, hfa, Option.bind_some, gtT, gtF, geT, geF, ltT, eqT, eqF, iff_true', iff_false', selB_true, selB_false, isB_bool, beqT, beqF, Bool.not_true, Bool.not_false, beq_self_eq_true, thenN_n, thenN_r, thenE_some, passB_same, passB_r, passE_eq, retE_r, if_true, if_false, Bool.false_eq_true, q6, h5, hfn]
        · simp (disch := omega) only [F178, nth_0, nth_1, nth_2, nth_3, nth_4, nth_5, fld_agg, toInt_int, toList_list, toBool_bool, Int.toNat_natCast, q0, q1, q2, q3, q4, q5, q7, h1, h3, h4, hfa, Option.bind_some, gtT, gtF, geT, geF, ltT, eqT, eqF, iff_true', iff_false', selB_true, selB_false, isB_bool, beqT, beqF, Bool.not_true, Bool.not_false, beq_self_eq_true, thenN_n, thenN_r, thenE_some, passB_same, passB_r, passE_eq, retE_r, if_true, if_false, Bool.false_eq_true, q6, h5, hfn]
    rw [if_neg x5] at hb
    by_cases x6 : op = 14 ∨ op = 16 ∨ op = 17
    · rw [if_pos x6] at hb; subst hb
      rcases h34 with h3 | ⟨h3, h4⟩
      · have h4 : True := trivial
        rcases x6 with rfl | rfl | rfl <;> simp (disch := omega) only [F178, nth_0, nth_1, nth_2, nth_3, nth_4, nth_5, fld_agg, toInt_int, toList_list, toBool_bool, Int.toNat_natCast, q0, q1, q2, q3, q4, q5, q7, h1, h3, h4, hfa, Option.bind_some, gtT, gtF, geT, geF, ltT, eqT, eqF, iff_true', iff_false', selB_true, selB_false, isB_bool, beqT, beqF, Bool.not_true, Bool.not_false, beq_self_eq_true, thenN_n, thenN_r, thenE_some, passB_same, passB_r, passE_eq, retE_r, if_true, if_false, Bool.false_eq_true]
      · rcases x6 with rfl | rfl | rfl <;> simp (disch := omega) only [F178, nth_0, nth_1, nth_2, nth_3, nth_4, nth_5, fld_agg, toInt_int, toList_list, toBool_bool, Int.toNat_natCast, q0, q1, q2, q3, q4, q5, q7, h1, h3, h4, hfa, Option.bind_some, gtT, gtF, geT, geF, ltT, eqT, eqF, iff_true', iff_false', selB_true, selB_false, isB_bool, beqT, beqF, Bool.not_true, Bool.not_false, beq_self_eq_true, thenN_n, thenN_r, thenE_some, passB_same, passB_r, passE_eq, retE_r, if_true, if_false, Bool.false_eq_true]
    · rw [if_neg x6] at hb; subst hb
      rcases h34 with h3 | ⟨h3, h4⟩
      · have h4 : True := trivial
        simp (disch := omega) only [F178, nth_0, nth_1, nth_2, nth_3, nth_4, nth_5, fld_agg, toInt_int, toList_list, toBool_bool, Int.toNat_natCast, q0, q1, q2, q3, q4, q5, q7, h1, h3, h4, hfa, Option.bind_some, gtT, gtF, geT, geF, ltT, eqT, eqF, iff_true', iff_false', selB_true, selB_false, isB_bool, beqT, beqF, Bool.not_true, Bool.not_false, beq_self_eq_true, thenN_n, thenN_r, thenE_some, passB_same, passB_r, passE_eq, retE_r, if_true, if_false, Bool.false_eq_true]
      · simp (disch := omega) only [F178, nth_0, nth_1, nth_2, nth_3, nth_4, nth_5, fld_agg, toInt_int, toList_list, toBool_bool, Int.toNat_natCast, q0, q1, q2, q3, q4, q5, q7, h1, h3, h4, hfa, Option.bind_some, gtT, gtF, geT, geF, ltT, eqT, eqF, iff_true', iff_false', selB_true, selB_false, isB_bool, beqT, beqF, Bool.not_true, Bool.not_false, beq_self_eq_true, thenN_n, thenN_r, thenE_some, passB_same, passB_r, passE_eq, retE_r, if_true, if_false, Bool.false_eq_true]
  exact fin _ rfl
end
theorem stf2 (a b c x : PV) : PV.setFld (.agg [a, b, c]) 2 x = .agg [a, b, x] := rfl
abbrev ck (l : List PV) (at_ : Nat) (left : Int) : PV := .agg [.list l, .int at_, .int left]
section
variable {l ks : List PV} {at_ : Nat} {op n deep left : Int}
set_option maxHeartbeats 8000000 in
theorem node93_eq (hl : l.length ≤ 1048576) (ha : at_ < l.length) (hl1 : 1 ≤ left) (hl2 : left ≤ 4000) (hA : arB op ks.length = true) :
    Evt fun k => F181 (ev Try.prog sg k) k [ck l at_ left, .agg [.int op, .int n, .list ks], .int deep] = iff (!(rtB l at_ op n ks.length deep)) (some [.bool false, ck l at_ (left - 1)])
      (thenN (thenE (loopEv (L181_0 (ev Try.prog sg k) k) k [.int 0, .int ks.length, .list ks, .int deep, .agg [.int op, .int n, .list ks], ck l at_ (left - 1)]) (passB 1)) (fun p13 => (some [(PV.bool true), (nth p13 0)])) (retE fun q14 => [(nth q14 1), (nth q14 0)])) := by
  refine (arI_is op).mp2 (Evt.and (is102 n) (Evt.and (is54 n 0 (IntKind.i64.wrap (deep - 1))) (Evt.and (is54 n 0 (IntKind.i64.wrap (frB l at_ - 1))) (Evt.and (is54 n 1 (IntKind.i64.wrap (l.length - 1))) (is54 n 0 1073741823))))) fun k q0 ⟨q3, q4, q5, q6, q7⟩ => ?_
  rw [arB_I] at hA
  have w1 : IntKind.i64.wrap (left - 1) = left - 1 := wrap64 (by omega) (by omega)
  have hfa : ((nth l at_).fld 0).toInt = frB l at_ := rfl
  have h1 : eqI (arI op) (-1) = false := by
    cases h : eqI (arI op) (-1)
    · rfl
    · rw [h] at hA; simp at hA
  have h34 : geI (arI op) 0 = false ∨ (geI (arI op) 0 = true ∧ neI ks.length (arI op) = false) := by
    cases h3 : geI (arI op) 0
    · exact .inl rfl
    · rw [h1, h3] at hA; exact .inr ⟨rfl, by simpa using hA⟩
  generalize hb : rtB l at_ op n ks.length deep = b
  unfold rtB at hb
  by_cases x1 : op = 1 ∨ op = 18
  · rw [if_pos x1] at hb; subst hb
    rcases h34 with h3 | ⟨h3, h4⟩
    · have h4 : True := trivial
      rcases x1 with rfl | rfl <;> simp (disch := omega) only [F181, nth_0, nth_1, nth_2, nth_3, nth_4, nth_5, fld_agg, stf2, toInt_int, toList_list, toBool_bool, Int.toNat_natCast, q0, q3, q4, q5, q7, w1, h1, h3, h4, hfa, Option.bind_some, gtT, gtF, geT, geF, ltT, ltF, eqT, eqF, iff_true', iff_false', selB_true, selB_false, isB_bool, beqT, beqF, Bool.not_true, Bool.not_false, beq_self_eq_true, thenN_n, thenN_r, passE_eq, retE_r]
    · rcases x1 with rfl | rfl <;> simp (disch := omega) only [F181, nth_0, nth_1, nth_2, nth_3, nth_4, nth_5, fld_agg, stf2, toInt_int, toList_list, toBool_bool, Int.toNat_natCast, q0, q3, q4, q5, q7, w1, h1, h3, h4, hfa, Option.bind_some, gtT, gtF, geT, geF, ltT, ltF, eqT, eqF, iff_true', iff_false', selB_true, selB_false, isB_bool, beqT, beqF, Bool.not_true, Bool.not_false, beq_self_eq_true, thenN_n, thenN_r, passE_eq, retE_r]
  rw [if_neg x1] at hb
  by_cases x2 : op = 2
  · rw [if_pos x2] at hb; subst hb
    rcases h34 with h3 | ⟨h3, h4⟩
    · have h4 : True := trivial
      simp (disch := omega) only [F181, nth_0, nth_1, nth_2, nth_3, nth_4, nth_5, fld_agg, stf2, toInt_int, toList_list, toBool_bool, Int.toNat_natCast, q0, q3, q4, q5, q7, w1, h1, h3, h4, hfa, Option.bind_some, gtT, gtF, geT, geF, ltT, ltF, eqT, eqF, iff_true', iff_false', selB_true, selB_false, isB_bool, beqT, beqF, Bool.not_true, Bool.not_false, beq_self_eq_true, thenN_n, thenN_r, passE_eq, retE_r]
    · simp (disch := omega) only [F181, nth_0, nth_1, nth_2, nth_3, nth_4, nth_5, fld_agg, stf2, toInt_int, toList_list, toBool_bool, Int.toNat_natCast, q0, q3, q4, q5, q7, w1, h1, h3, h4, hfa, Option.bind_some, gtT, gtF, geT, geF, ltT, ltF, eqT, eqF, iff_true', iff_false', selB_true, selB_false, isB_bool, beqT, beqF, Bool.not_true, Bool.not_false, beq_self_eq_true, thenN_n, thenN_r, passE_eq, retE_r]
  rw [if_neg x2] at hb
  by_cases x3 : op = 3
  · rw [if_pos x3] at hb; subst hb
    rcases h34 with h3 | ⟨h3, h4⟩
    · have h4 : True := trivial
      simp (disch := omega) only [F181, nth_0, nth_1, nth_2, nth_3, nth_4, nth_5, fld_agg, stf2, toInt_int, toList_list, toBool_bool, Int.toNat_natCast, q0, q3, q4, q5, q7, w1, h1, h3, h4, hfa, Option.bind_some, gtT, gtF, geT, geF, ltT, ltF, eqT, eqF, iff_true', iff_false', selB_true, selB_false, isB_bool, beqT, beqF, Bool.not_true, Bool.not_false, beq_self_eq_true, thenN_n, thenN_r, passE_eq, retE_r]
    · simp (disch := omega) only [F181, nth_0, nth_1, nth_2, nth_3, nth_4, nth_5, fld_agg, stf2, toInt_int, toList_list, toBool_bool, Int.toNat_natCast, q0, q3, q4, q5, q7, w1, h1, h3, h4, hfa, Option.bind_some, gtT, gtF, geT, geF, ltT, ltF, eqT, eqF, iff_true', iff_false', selB_true, selB_false, isB_bool, beqT, beqF, Bool.not_true, Bool.not_false, beq_self_eq_true, thenN_n, thenN_r, passE_eq, retE_r]
  rw [if_neg x3] at hb
  by_cases x4 : op = 4
  · rw [if_pos x4] at hb; subst hb
    cases h5 : eqI n 0 <;> rcases h34 with h3 | ⟨h3, h4⟩
    · have h4 : True := trivial
      simp (disch := omega) only [F181, nth_0, nth_1, nth_2, nth_3, nth_4, nth_5, fld_agg, stf2, toInt_int, toList_list, toBool_bool, Int.toNat_natCast, q0, q3, q4, q5, q7, w1, h1, h3, h4, hfa, Option.bind_some, gtT, gtF, geT, geF, ltT, ltF, eqT, eqF, iff_true', iff_false', selB_true, selB_false, isB_bool, beqT, beqF, Bool.not_true, Bool.not_false, beq_self_eq_true, thenN_n, thenN_r, passE_eq, retE_r, h5]; rfl
    · simp (disch := omega) only [F181, nth_0, nth_1, nth_2, nth_3, nth_4, nth_5, fld_agg, stf2, toInt_int, toList_list, toBool_bool, Int.toNat_natCast, q0, q3, q4, q5, q7, w1, h1, h3, h4, hfa, Option.bind_some, gtT, gtF, geT, geF, ltT, ltF, eqT, eqF, iff_true', iff_false', selB_true, selB_false, isB_bool, beqT, beqF, Bool.not_true, Bool.not_false, beq_self_eq_true, thenN_n, thenN_r, passE_eq, retE_r, h5]; rfl
    · have h4 : True := trivial
      simp (disch := omega) only [F181, nth_0, nth_1, nth_2, nth_3, nth_4, nth_5, fld_agg, stf2, toInt_int, toList_list, toBool_bool, Int.toNat_natCast, q0, q3, q4, q5, q7, w1, h1, h3, h4, hfa, Option.bind_some, gtT, gtF, geT, geF, ltT, ltF, eqT, eqF, iff_true', iff_false', selB_true, selB_false, isB_bool, beqT, beqF, Bool.not_true, Bool.not_false, beq_self_eq_true, thenN_n, thenN_r, passE_eq, retE_r, h5]; rfl
    · simp (disch := omega) only [F181, nth_0, nth_1, nth_2, nth_3, nth_4, nth_5, fld_agg, stf2, toInt_int, toList_list, toBool_bool, Int.toNat_natCast, q0, q3, q4, q5, q7, w1, h1, h3, h4, hfa, Option.bind_some, gtT, gtF, geT, geF, ltT, ltF, eqT, eqF, iff_true', iff_false', selB_true, selB_false, isB_bool, beqT, beqF, Bool.not_true, Bool.not_false, beq_self_eq_true, thenN_n, thenN_r, passE_eq, retE_r, h5]; rfl
  rw [if_neg x4] at hb
  by_cases x5 : op = 5
  · rw [if_pos x5] at hb; subst hb
    cases h5 : okR n 1 (IntKind.i64.wrap (l.length - 1)) with
    | false =>
      rw [Bool.false_and]
      rcases h34 with h3 | ⟨h3, h4⟩
      · have h4 : True := trivial
        simp (disch := omega) only [F181, nth_0, nth_1, nth_2, nth_3, nth_4, nth_5, fld_agg, stf2, toInt_int, toList_list, toBool_bool, Int.toNat_natCast, q0, q3, q4, q5, q7, w1, h1, h3, h4, hfa, Option.bind_some, gtT, gtF, geT, geF, ltT, ltF, eqT, eqF, iff_true', iff_false', selB_true, selB_false, isB_bool, beqT, beqF, Bool.not_true, Bool.not_false, beq_self_eq_true, thenN_n, thenN_r, passE_eq, retE_r, q6, h5]
      · simp (disch := omega) only [F181, nth_0, nth_1, nth_2, nth_3, nth_4, nth_5, fld_agg, stf2, toInt_int, toList_list, toBool_bool, Int.toNat_natCast, q0, q3, q4, q5, q7, w1, h1, h3, h4, hfa, Option.bind_some, gtT, gtF, geT, geF, ltT, ltF, eqT, eqF, iff_true', iff_false', selB_true, selB_false, isB_bool, beqT, beqF, Bool.not_true, Bool.not_false, beq_self_eq_true, thenN_n, thenN_r, passE_eq, retE_r, q6, h5]
    | true =>
      have hr := okR_in h5
      rw [wrap_len l hl] at hr
      have hfn : ((nth l n.toNat).fld 0).toInt = frB l n.toNat := rfl
      rw [Bool.true_and]
      rcases h34 with h3 | ⟨h3, h4⟩
      · have h4 : True := trivial
        simp (disch := omega) only [F181, nth_0, nth_1, nth_2, nth_3, nth_4, nth_5, fld_agg, stf2, toInt_int, toList_list, toBool_bool, Int.toNat_natCast, q0, q3, q4, q5, q7, w1, h1, h3, h4, hfa, Option.bind_some, gtT, gtF, geT, geF, ltT, ltF, eqT, eqF, iff_true', iff_false', selB_true, selB_false, isB_bool, beqT, beqF, Bool.not_true, Bool.not_false, beq_self_eq_true, thenN_n, thenN_r, passE_eq, retE_r, q6, h5, hfn]
      · simp (disch := omega) only [F181, nth_0, nth_1, nth_2, nth_3, nth_4, nth_5, fld_agg, stf2, toInt_int, toList_list, toBool_bool, Int.toNat_natCast, q0, q3, q4, q5, q7, w1, h1, h3, h4, hfa, Option.bind_some, gtT, gtF, geT, geF, ltT, ltF, eqT, eqF, iff_true', iff_false', selB_true, selB_false, isB_bool, beqT, beqF, Bool.not_true, Bool.not_false, beq_self_eq_true, thenN_n, thenN_r, passE_eq, retE_r, q6, h5, hfn]
  rw [if_neg x5] at hb
  by_cases x6 : op = 14 ∨ op = 16 ∨ op = 17
  · rw [if_pos x6] at hb; subst hb
    rcases h34 with h3 | ⟨h3, h4⟩
    · have h4 : True := trivial
      rcases x6 with rfl | rfl | rfl <;> simp (disch := omega) only [F181, nth_0, nth_1, nth_2, nth_3, nth_4, nth_5, fld_agg, stf2, toInt_int, toList_list, toBool_bool, Int.toNat_natCast, q0, q3, q4, q5, q7, w1, h1, h3, h4, hfa, Option.bind_some, gtT, gtF, geT, geF, ltT, ltF, eqT, eqF, iff_true', iff_false', selB_true, selB_false, isB_bool, beqT, beqF, Bool.not_true, Bool.not_false, beq_self_eq_true, thenN_n, thenN_r, passE_eq, retE_r]
    · rcases x6 with rfl | rfl | rfl <;> simp (disch := omega) only [F181, nth_0, nth_1, nth_2, nth_3, nth_4, nth_5, fld_agg, stf2, toInt_int, toList_list, toBool_bool, Int.toNat_natCast, q0, q3, q4, q5, q7, w1, h1, h3, h4, hfa, Option.bind_some, gtT, gtF, geT, geF, ltT, ltF, eqT, eqF, iff_true', iff_false', selB_true, selB_false, isB_bool, beqT, beqF, Bool.not_true, Bool.not_false, beq_self_eq_true, thenN_n, thenN_r, passE_eq, retE_r]
  · rw [if_neg x6] at hb; subst hb
    rcases h34 with h3 | ⟨h3, h4⟩
    · have h4 : True := trivial
      simp (disch := omega) only [F181, nth_0, nth_1, nth_2, nth_3, nth_4, nth_5, fld_agg, stf2, toInt_int, toList_list, toBool_bool, Int.toNat_natCast, q0, q3, q4, q5, q7, w1, h1, h3, h4, hfa, Option.bind_some, gtT, gtF, geT, geF, ltT, ltF, eqT, eqF, iff_true', iff_false', selB_true, selB_false, isB_bool, beqT, beqF, Bool.not_true, Bool.not_false, beq_self_eq_true, thenN_n, thenN_r, passE_eq, retE_r]
    · simp (disch := omega) only [F181, nth_0, nth_1, nth_2, nth_3, nth_4, nth_5, fld_agg, stf2, toInt_int, toList_list, toBool_bool, Int.toNat_natCast, q0, q3, q4, q5, q7, w1, h1, h3, h4, hfa, Option.bind_some, gtT, gtF, geT, geF, ltT, ltF, eqT, eqF, iff_true', iff_false', selB_true, selB_false, isB_bool, beqT, beqF, Bool.not_true, Bool.not_false, beq_self_eq_true, thenN_n, thenN_r, passE_eq, retE_r]
theorem node93_no (hl1 : 0 ≤ left) (hl2 : left ≤ 4000) (h : left = 0 ∨ arB op ks.length = false) : Rn 181 [ck l at_ left, .agg [.int op, .int n, .list ks], .int deep] [.bool false, ck l at_ (left - 1)] := by
  refine Is.of e181 ((arI_is op).mp fun k q0 => ?_)
  have w1 : IntKind.i64.wrap (left - 1) = left - 1 := wrap64 (by omega) (by omega)
  by_cases h0 : left = 0
  · simp (disch := omega) [F181, q0, w1, ltT]
  have hA := h.resolve_left h0
  rw [arB_I] at hA
  cases h1 : eqI (arI op) (-1) with
  | true => simp (disch := omega) [F181, q0, w1, ltF, h1]
  | false =>
    rw [h1] at hA
    have hA : geI (arI op) 0 = true ∧ neI ks.length (arI op) = true := by simpa using hA
    simp (disch := omega) [F181, q0, w1, ltF, h1, hA.1, hA.2]
end
end Go.Proofs.Ytijgokehlicmnaa.GFnExactGen
