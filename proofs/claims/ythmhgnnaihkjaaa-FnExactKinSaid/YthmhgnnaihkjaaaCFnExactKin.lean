/- What functions of the program and of the reference come to, for the law FnExactKin. Each under the conditions that it names. -/
import Derived.Test.YthmhgnnaihkjaaaBFnExactKin
namespace Go.Proofs.Ythmhgnnaihkjaaa.GFnExactKin
open Go Go.Rsc Go.Proofs.Ythmhgnnaihkjaaa
set_option maxRecDepth 100000
set_option linter.unusedVariables false
set_option linter.unusedSimpArgs false
/-! ### Listed numbers, and one more in its place -/
def hasR (R : List Int) (x : Int) : Bool := !R.all fun y => !eqI y x
theorem hasR_iff {R : List Int} {x : Int} : hasR R x = decide (x ∈ R) := by
  unfold hasR
  by_cases h : x ∈ R
  · have : (R.all fun y => !eqI y x) = false := List.all_eq_false.2 ⟨x, h, by rw [eqT rfl]; simp⟩
    rw [this]; simp [h]
  · have : (R.all fun y => !eqI y x) = true := List.all_eq_true.2 fun y hy => by
      have : y ≠ x := fun e => h (e ▸ hy)
      rw [eqF this]; rfl
    rw [this]; simp [h]
theorem range_i (f : Int → Bool) (o : List Int) : ((List.range o.length).all fun i => f (o.getD i 0)) = o.all f := by
  rw [Bool.eq_iff_iff, List.all_eq_true, List.all_eq_true]
  constructor
  · intro h x hx
    obtain ⟨i, hi, rfl⟩ := List.getElem_of_mem hx
    have := h i (by simpa using hi)
    simpa [List.getD_eq_getElem?_getD, hi] using this
  · intro h i hi
    have hi : i < o.length := by simpa using hi
    exact h _ (by simp [List.getD_eq_getElem?_getD, hi])
theorem drop_ints {R : List Int} {i : Nat} (h : i < R.length) : R.drop i = R.getD i 0 :: R.drop (i + 1) := by
  rw [List.drop_eq_getElem_cons h]
  simp [List.getD_eq_getElem?_getD, h]
section
variable {R : List Int}
theorem hasS (hR : R.length ≤ 4194304) (x : Int) : Rn 68 [ints R, .int x] [.bool (hasR R x)] := by
  have hl := ints_len R
  have h1 := all_loop (body := fun n => L68_0 (ev Try.prog sg n) n) (pay := fun i => [.int i, ints R, .int x]) (c := fun i => !eqI (R.getD i 0) x) (e1 := .x 0) (r1 := []) (e2 := .r) (r2 := [.bool true]) R.length (by simp) (by simp) (fun i hi hc => Evt.all fun n => ?_) (fun i hi hc => Evt.all fun n => ?_) (Evt.all fun n => ?_)
  · rw [range_i (fun y => !eqI y x) R] at h1
    unfold hasR
    refine Is.of e68 (h1.mp fun n q => ?_)
    simp only [show ((0 : Nat) : Int) = 0 from rfl] at q
    cases hc : (R.all fun y => !eqI y x)
    · rw [hc, if_neg (by decide)] at q
      simp only [F68, nth_0, nth_1, q, thenE_some]
      rfl
    · rw [hc, if_pos rfl] at q
      simp only [F68, nth_0, nth_1, q, thenE_some, passB_same, thenN_n]
      rfl
  · have hn := nth_ints hi
    have hc : eqI (R.getD i 0) x = false := by simpa only [Bool.not_eq_true'] using hc
    have c1 : ltI (i : Int) R.length = true := ltT (by omega)
    have c2 : geI (i : Int) 0 = true := geT (by omega)
    have hk : ((i : Int)).toNat = i := by omega
    have w1 : IntKind.i64.wrap ((i : Int) + 1) = ((i + 1 : Nat) : Int) := by rw [wrap64 (by omega) (by omega)]; omega
    simp only [L68_0, nth_0, nth_1, nth_2, toInt_int, toList_list, hl, c1, c2, iff_true', hk, hn, hc, iff_false', w1]
  · have hn := nth_ints hi
    have hc : eqI (R.getD i 0) x = true := by simpa only [Bool.not_eq_false'] using hc
    have c1 : ltI (i : Int) R.length = true := ltT (by omega)
    have c2 : geI (i : Int) 0 = true := geT (by omega)
    have hk : ((i : Int)).toNat = i := by omega
    simp only [L68_0, nth_0, nth_1, nth_2, toInt_int, toList_list, hl, c1, c2, iff_true', hk, hn, hc]
  · have c1 : ltI (R.length : Int) R.length = false := ltF (by omega)
    simp only [L68_0, nth_0, nth_1, nth_2, toInt_int, toList_list, hl, c1, iff_false']
/-- Where a number stands, or -1. -/
def at22 (R : List Int) (x : Int) : Int := if x ∈ R then (R.idxOf x : Int) else -1
theorem atGo (hR : R.length ≤ 4194304) (x : Int) : ∀ (j i : Nat), i + j = R.length → (∀ k, k < i → R.getD k 0 ≠ x) → Evt fun n => ∀ m, j + 1 ≤ m → loopEv (L42_0 (ev Try.prog sg n) n) m [.int i, ints R, .int x] = if x ∈ R.drop i then some (.r, [.int ((i + (R.drop i).idxOf x : Nat) : Int)]) else some (.x 0, []) := by
  have hl := ints_len R
  intro j
  induction j with
  | zero =>
    intro i hi _
    refine Evt.all fun n m hm => ?_
    obtain ⟨m, rfl⟩ : ∃ m', m = m' + 1 := ⟨m - 1, by omega⟩
    have e : R.drop i = [] := List.drop_eq_nil_iff.2 (by omega)
    have c1 : ltI (i : Int) R.length = false := ltF (by omega)
    have hB : L42_0 (ev Try.prog sg n) n [.int i, ints R, .int x] = some (.x 0, []) := by
      simp only [L42_0, nth_0, nth_1, toInt_int, toList_list, hl, c1, iff_false']
    simp only [loopEv, hB, thenN_x, passE_eq, e]
    rfl
  | succ j ih =>
    intro i hi hp
    have hd := drop_ints (R := R) (i := i) (by omega)
    have c1 : ltI (i : Int) R.length = true := ltT (by omega)
    have c2 : geI (i : Int) 0 = true := geT (by omega)
    have hk : ((i : Int)).toNat = i := by omega
    have w1 : IntKind.i64.wrap ((i : Int) + 1) = ((i + 1 : Nat) : Int) := by rw [wrap64 (by omega) (by omega)]; omega
    have hn := nth_ints (R := R) (i := i) (by omega)
    rw [hd]
    by_cases e : R.getD i 0 = x
    · have hc := eqT e
      refine Evt.all fun n m hm => ?_
      obtain ⟨m, rfl⟩ : ∃ m', m = m' + 1 := ⟨m - 1, by omega⟩
      have hB : L42_0 (ev Try.prog sg n) n [.int i, ints R, .int x] = some (.r, [.int i]) := by
        simp only [L42_0, nth_0, nth_1, nth_2, toInt_int, toList_list, hl, c1, c2, iff_true', hk, hn, hc]
      rw [if_pos (by rw [e]; simp)]
      rw [e]
      simp only [loopEv, hB, List.idxOf_cons_self, Nat.add_zero]
      rfl
    · have hc := eqF e
      refine (ih (i + 1) (by omega) fun k hk => by by_cases e2 : k = i; · subst e2; exact e
                                                   · exact hp k (by omega)).mp fun n q2 m hm => ?_
      obtain ⟨m, rfl⟩ : ∃ m', m = m' + 1 := ⟨m - 1, by omega⟩
      have hB : L42_0 (ev Try.prog sg n) n [.int i, ints R, .int x] = some (.n, [.int (i + 1 : Nat), ints R, .int x]) := by
        simp only [L42_0, nth_0, nth_1, nth_2, toInt_int, toList_list, hl, c1, c2, iff_true', hk, hn, hc, iff_false', w1]
      simp only [loopEv, hB, thenN_n]
      rw [q2 m (by omega)]
      have hne : ¬ x = R.getD i 0 := Ne.symm e
      have e3 : (R.getD i 0 == x) = false := by simpa using e
      by_cases hm2 : x ∈ R.drop (i + 1)
      · rw [if_pos hm2, if_pos (List.mem_cons_of_mem _ hm2), List.idxOf_cons, e3]
        simp only [cond_false]
        rw [show i + 1 + (R.drop (i + 1)).idxOf x = i + ((R.drop (i + 1)).idxOf x + 1) by omega]
      · rw [if_neg hm2, if_neg (by rw [List.mem_cons]; rintro (h | h); exact hne h; exact hm2 h)]
theorem atS (hR : R.length ≤ 4194304) (x : Int) : Rn 42 [ints R, .int x] [.int (at22 R x)] := by
  refine Is.of e42 ((atGo hR x R.length 0 (by omega) (fun k hk => by omega)).mp2 (Evt.ge (R.length + 1)) fun n q1 q2 => ?_)
  have q1' : loopEv (L42_0 (ev Try.prog sg n) n) n [.int 0, ints R, .int x] = _ := q1 n q2
  rw [List.drop_zero] at q1'
  unfold at22
  by_cases h : x ∈ R
  · rw [if_pos h] at q1' ⊢
    simp only [F42, nth_0, nth_1, q1', thenE_some, Nat.zero_add]
    rfl
  · rw [if_neg h] at q1' ⊢
    simp only [F42, nth_0, nth_1, q1', thenE_some, passB_same, thenN_n]
end
theorem tw_at {x : Int} : ∀ {s : List Int} {i : Nat}, i < (s.takeWhile (· < x)).length → s.getD i 0 < x
  | [], i, h => by simp at h
  | a :: s, i, h => by
    by_cases hc : a < x
    · have e : (a :: s).takeWhile (fun y => decide (y < x)) = a :: s.takeWhile fun y => decide (y < x) := by simp [hc]
      rw [e, List.length_cons] at h
      cases i with
      | zero => simpa using hc
      | succ i =>
        have := tw_at (x := x) (s := s) (i := i) (by omega)
        simpa using this
    · have e : (a :: s).takeWhile (fun y => decide (y < x)) = [] := by simp [hc]
      rw [e] at h
      simp at h
theorem tw_end {x : Int} : ∀ {s : List Int}, (s.takeWhile (· < x)).length < s.length → ¬ s.getD (s.takeWhile (· < x)).length 0 < x
  | [], h => by simp at h
  | a :: s, h => by
    by_cases hc : a < x
    · have e : (a :: s).takeWhile (fun y => decide (y < x)) = a :: s.takeWhile fun y => decide (y < x) := by simp [hc]
      rw [e, List.length_cons, List.length_cons] at h
      rw [e, List.length_cons]
      have := tw_end (x := x) (s := s) (by omega)
      simpa using this
    · have e : (a :: s).takeWhile (fun y => decide (y < x)) = [] := by simp [hc]
      rw [e]
      simpa using hc
theorem tw_split (x : Int) (s : List Int) : s.takeWhile (· < x) ++ x :: s.dropWhile (· < x) = s.take (s.takeWhile (· < x)).length ++ [x] ++ s.drop (s.takeWhile (· < x)).length := by
  have h := List.takeWhile_append_dropWhile (p := fun y => decide (y < x)) (l := s)
  have h1 : s.take (s.takeWhile fun y => decide (y < x)).length = s.takeWhile fun y => decide (y < x) := by
    have : (s.takeWhile (fun y => decide (y < x)) ++ s.dropWhile fun y => decide (y < x)).take (s.takeWhile fun y => decide (y < x)).length = s.takeWhile fun y => decide (y < x) := List.take_left
    rwa [h] at this
  have h2 : s.drop (s.takeWhile fun y => decide (y < x)).length = s.dropWhile fun y => decide (y < x) := by
    have : (s.takeWhile (fun y => decide (y < x)) ++ s.dropWhile fun y => decide (y < x)).drop (s.takeWhile fun y => decide (y < x)).length = s.dropWhile fun y => decide (y < x) := List.drop_left
    rwa [h] at this
  rw [h1, h2]
  simp
theorem withS {s : List Int} (hs : s.length ≤ 4194304) (x : Int) : Rn 41 [ints s, .int x] [ints (insI x s)] := by
  have hnl := ints_len s
  have hh := hasS hs x
  rw [hasR_iff] at hh
  unfold insI
  by_cases hm : x ∈ s
  · rw [if_pos hm]
    rw [decide_eq_true hm] at hh
    refine Is.of e41 (hh.mp fun n q => ?_)
    have c1 : leN (([] : List PV).length + (s.map PV.int).length) 17592186044416 = true := leNT (by rw [hnl, List.length_nil]; omega)
    simp only [F41, nth_0, nth_1, q, Option.bind_some, toBool_bool, iff_true', toList_list, c1, List.nil_append]
  · rw [if_neg hm]
    rw [decide_eq_false hm] at hh
    have htl : (s.takeWhile (· < x)).length ≤ s.length := (List.takeWhile_sublist _).length_le
    have hta : ∀ i, i < (s.takeWhile (· < x)).length → s.getD i 0 < x := fun i hi => tw_at hi
    have hte := tw_end (x := x) (s := s)
    rw [tw_split]
    generalize (s.takeWhile (· < x)).length = at_ at *
    have h1 := loop_run (body := fun m => L41_0 (ev Try.prog sg m) m) (fun i => [.int x, ints s, .int i]) at_ (e := .x 0) (res := [.int x, ints s, .int at_]) (fun i hi => Evt.all fun m => ?_) (Evt.all fun m => ?_) (by decide)
    · refine Is.of e41 (hh.mp2 h1 fun m q1 q2 => ?_)
      have q2' : loopEv (L41_0 (ev Try.prog sg m) m) m [.int x, ints s, .int 0] = some (.x 0, [.int x, ints s, .int at_]) := q2
      have e0 : ints (s.take at_ ++ [x] ++ s.drop at_) = .list ((s.map PV.int).take at_ ++ [PV.int x] ++ (s.map PV.int).drop at_) := by
        simp [List.map_append, List.map_take, List.map_drop]
      rw [e0]
      have hdl : ((s.map PV.int).drop at_).take (s.length - at_) = (s.map PV.int).drop at_ := List.take_of_length_le (by rw [List.length_drop, hnl]; exact Nat.le_refl _)
      have hat : ((at_ : Int)).toNat = at_ := by omega
      have hsl : ((s.length : Int)).toNat = s.length := by omega
      have c1 : leI 0 (at_ : Int) = true := leT (by omega)
      have c2 : leI (at_ : Int) s.length = true := leT (by omega)
      have c3 : geI (at_ : Int) 0 = true := geT (by omega)
      have c4 : leI (s.length : Int) s.length = true := leT (by omega)
      have c5 : geI 0 0 = true := rfl
      have c6 : leN (([] : List PV).length + ((s.map PV.int).take at_).length) 17592186044416 = true := leNT (by rw [List.length_take, hnl, List.length_nil]; omega)
      have c7 : leN (((s.map PV.int).take at_).length + [PV.int x].length) 17592186044416 = true := leNT (by rw [List.length_take, hnl]; simp; omega)
      have c8 : leN (((s.map PV.int).take at_ ++ [PV.int x]).length + ((s.map PV.int).drop at_).length) 17592186044416 = true := leNT (by rw [List.length_append, List.length_take, List.length_drop, hnl]; simp; omega)
      simp only [F41, nth_0, nth_1, nth_2, q1, Option.bind_some, toBool_bool, iff_false', q2', thenE_some, passB_same, thenN_n, toInt_int, toList_list, hnl, c5, c1, c2, c3, c4, iff_true', hat, hsl, Int.toNat_zero, Nat.sub_zero, List.drop_zero, c6, List.nil_append, c7, hdl, c8]
    · have hg := hta i hi
      have hn1 := nth_ints (R := s) (i := i) (by omega)
      have c1 : ltI (i : Int) s.length = true := ltT (by omega)
      have c2 : geI (i : Int) 0 = true := geT (by omega)
      have c3 : ltI (s.getD i 0) x = true := ltT hg
      have w1 : IntKind.i64.wrap ((i : Int) + 1) = ((i + 1 : Nat) : Int) := by rw [wrap64 (by omega) (by omega)]; omega
      have hk : ((i : Int)).toNat = i := by omega
      simp only [L41_0, nth_0, nth_1, nth_2, toInt_int, toList_list, hnl, c1, beq_self_eq_true, selB_true, iff_true', c2, hk, hn1, Option.bind_some, c3, toBool_bool, w1]
    · by_cases he : at_ < s.length
      · have hg := hte he
        have hn1 := nth_ints (R := s) (i := at_) he
        have c1 : ltI (at_ : Int) s.length = true := ltT (by omega)
        have c2 : geI (at_ : Int) 0 = true := geT (by omega)
        have c3 : ltI (s.getD at_ 0) x = false := ltF (by omega)
        have hk : ((at_ : Int)).toNat = at_ := by omega
        simp only [L41_0, nth_0, nth_1, nth_2, toInt_int, toList_list, hnl, c1, beq_self_eq_true, selB_true, iff_true', c2, hk, hn1, Option.bind_some, c3, toBool_bool, iff_false']
      · have c1 : ltI (at_ : Int) s.length = false := ltF (by omega)
        have ft : (false == true) = false := rfl
        simp only [L41_0, nth_0, nth_1, nth_2, toInt_int, toList_list, hnl, c1, ft, selB_false, iff_false', Option.bind_some, toBool_bool]
end Go.Proofs.Ythmhgnnaihkjaaa.GFnExactKin
