/- What functions of the program and of the reference come to, for the law FnExactUnused. Each under the conditions that it names. -/
import Derived.Test.YthmhgnnaihkjaaaDoorHFnExactUnused
namespace Go.Proofs.YthmhgnnaihkjaaaDoor.GFnExactUnused
open Go Go.Rsc Go.Proofs.YthmhgnnaihkjaaaDoor
set_option maxRecDepth 100000
set_option linter.unusedVariables false
set_option linter.unusedSimpArgs false
theorem toks_len {l : List UInt8} : ∀ (d i : Nat) (out o : List PV), toks l d i out = .inl o → out.length ≤ i → i ≤ l.length → o.length ≤ l.length
  | 0, i, out, o, h, h1, h2 => by cases h; omega
  | d + 1, i, out, o, h, h1, h2 => by
    simp only [toks] at h
    split at h
    · rename_i hlt
      cases hn : nextT l i with
      | skip => rw [hn] at h; exact toks_len d (i + 1) out o h (by omega) (by omega)
      | tok t to =>
        rw [hn] at h
        obtain ⟨t1, t2⟩ := next_to hlt hn
        exact toks_len d to (out ++ [t]) o h (by simp; omega) t2
      | bad => rw [hn] at h; cases h
    · cases h; omega
theorem tokL_len {l : List UInt8} {o : List PV} (h : tokL l = .inl o) : o.length ≤ 4000 := by
  unfold tokL at h
  split at h
  · have := toks_len _ _ _ _ h (by simp) (by omega); omega
  · cases h
def hit (nm : List UInt8) (p : PV) : Bool := cmpS BinOp.eql (p.fld 3).toStr (sB nm)
theorem hitI (nm : List UInt8) (p : PV) : Rn 48 [p, .str (sB nm)] [.bool (hit nm p)] := Is.of e48 (Evt.all fun n => rfl)
theorem nth_el {o : List PV} {i : Nat} (h : i < o.length) : nth o i = o.getD i .unit := rfl
theorem range_o (f : PV → Bool) (o : List PV) : ((List.range o.length).all fun i => f (nth o i)) = o.all f := by
  rw [Bool.eq_iff_iff, List.all_eq_true, List.all_eq_true]
  constructor
  · intro h x hx
    obtain ⟨i, hi, rfl⟩ := List.getElem_of_mem hx
    have := h i (by simpa using hi)
    simpa [nth, List.getD_eq_getElem?_getD, hi] using this
  · intro h i hi
    have hi : i < o.length := by simpa using hi
    exact h _ (by simp [nth, List.getD_eq_getElem?_getD, hi])
section
variable {nm : List UInt8} {o : List PV}
theorem idxLoop (ho : o.length ≤ 4000) : ∀ (j i : Nat), i + j = o.length → ∃ r : Nat, Evt fun n => ∀ m, j + 1 ≤ m → loopEv (L78_0 (ev Tryd.prog sg n) n) m [.int i, .int o.length, .list o, .str (sB nm)] = if (o.drop i).all fun p => !hit nm p then some (.x 0, []) else some (.r, [.int r]) := by
  intro j
  induction j with
  | zero =>
    intro i hi
    refine ⟨0, Evt.all fun n m hm => ?_⟩
    obtain ⟨m, rfl⟩ : ∃ m', m = m' + 1 := ⟨m - 1, by omega⟩
    have e : o.drop i = [] := List.drop_eq_nil_iff.2 (by omega)
    have c1 : ltI (i : Int) o.length = false := ltF (by omega)
    have hB : L78_0 (ev Tryd.prog sg n) n [.int i, .int o.length, .list o, .str (sB nm)] = some (.x 0, []) := by
      simp only [L78_0, nth_0, nth_1, toInt_int, c1, iff_false']
    simp only [loopEv, hB, thenN_x, passE_eq, e, List.all_nil, if_true]
  | succ j ih =>
    intro i hi
    have hd : o.drop i = nth o i :: o.drop (i + 1) := by
      rw [List.drop_eq_getElem_cons (by omega)]
      simp [nth, List.getD_eq_getElem?_getD, show i < o.length by omega]
    have c1 : ltI (i : Int) o.length = true := ltT (by omega)
    have c2 : geI (i : Int) 0 = true := geT (by omega)
    have hk : ((i : Int)).toNat = i := by omega
    have w1 : IntKind.i64.wrap ((i : Int) + 1) = ((i + 1 : Nat) : Int) := by rw [wrap64 (by omega) (by omega)]; omega
    have hh := hitI nm (nth o i)
    rw [hd]
    cases hc : hit nm (nth o i) with
    | false =>
      rw [hc] at hh
      obtain ⟨r, hr⟩ := ih (i + 1) (by omega)
      refine ⟨r, hh.mp2 hr fun n q1 q2 m hm => ?_⟩
      obtain ⟨m, rfl⟩ : ∃ m', m = m' + 1 := ⟨m - 1, by omega⟩
      have hB : L78_0 (ev Tryd.prog sg n) n [.int i, .int o.length, .list o, .str (sB nm)] = some (.n, [.int (i + 1 : Nat), .int o.length, .list o, .str (sB nm)]) := by
        simp only [L78_0, nth_0, nth_1, nth_2, nth_3, toInt_int, toList_list, c1, c2, iff_true', hk, q1, Option.bind_some, toBool_bool, iff_false', w1]
      simp only [loopEv, hB, thenN_n]
      rw [q2 m (by omega)]
      simp [hc]
    | true =>
      rw [hc] at hh
      refine ⟨i, hh.mp fun n q1 m hm => ?_⟩
      obtain ⟨m, rfl⟩ : ∃ m', m = m' + 1 := ⟨m - 1, by omega⟩
      have hB : L78_0 (ev Tryd.prog sg n) n [.int i, .int o.length, .list o, .str (sB nm)] = some (.r, [.int i]) := by
        simp only [L78_0, nth_0, nth_1, nth_2, nth_3, toInt_int, toList_list, c1, c2, iff_true', hk, q1, Option.bind_some, toBool_bool]
      simp only [loopEv, hB]
      simp [hc]
theorem anyI (ho : o.length ≤ 4000) : Rn 47 [.list o, .str (sB nm)] [.bool (!o.all fun p => !hit nm p)] := by
  obtain ⟨r, hr⟩ := idxLoop (nm := nm) ho o.length 0 (by omega)
  have h1 : Rn 78 [.list o, .str (sB nm)] [.int (if (o.all fun p => !hit nm p) then -1 else (r : Int))] := by
    refine Is.of e78 (hr.mp2 (Evt.ge (o.length + 1)) fun n q1 q2 => ?_)
    have q1' : loopEv (L78_0 (ev Tryd.prog sg n) n) n [.int 0, .int o.length, .list o, .str (sB nm)] = _ := q1 n q2
    rw [List.drop_zero] at q1'
    cases hc : (o.all fun p => !hit nm p) <;> rw [hc] at q1'
    · simp only [Bool.false_eq_true, if_false] at q1' ⊢
      simp only [F78, nth_0, nth_1, toList_list, q1', thenE_some]
      rfl
    · simp only [if_true] at q1' ⊢
      simp only [F78, nth_0, nth_1, toList_list, q1', thenE_some, passB_same, thenN_n]
  refine Is.of e47 (h1.mp fun n q => ?_)
  simp only [F47, nth_0, nth_1, q, Option.bind_some, toInt_int]
  cases hc : (o.all fun p => !hit nm p)
  · have : geI (r : Int) 0 = true := geT (by omega)
    simp [this]
  · rfl
theorem specLoop (ho : o.length ≤ 4000) : Evt fun n => loopEv (L19_0 (ev Tryd.prog sg n) n) n [.int 0, .list o, .str (sB nm)] = if (o.all fun p => !hit nm p) then some (.x 0, []) else some (.r, [.bool false]) := by
  have h1 := all_loop (body := fun n => L19_0 (ev Tryd.prog sg n) n) (pay := fun i => [.int i, .list o, .str (sB nm)]) (c := fun i => !hit nm (nth o i)) (e1 := .x 0) (r1 := []) (e2 := .r) (r2 := [.bool false]) o.length (by simp) (by simp) (fun i hi hc => Evt.all fun n => ?_) (fun i hi hc => Evt.all fun n => ?_) (Evt.all fun n => ?_)
  · rw [range_o (fun p => !hit nm p) o] at h1
    exact h1
  · have hc : hit nm (nth o i) = false := by simpa using hc
    have c1 : ltI (i : Int) o.length = true := ltT (by omega)
    have c2 : geI (i : Int) 0 = true := geT (by omega)
    have hk : ((i : Int)).toNat = i := by omega
    have w1 : IntKind.i64.wrap ((i : Int) + 1) = ((i + 1 : Nat) : Int) := by rw [wrap64 (by omega) (by omega)]; omega
    unfold hit at hc
    simp only [L19_0, nth_0, nth_1, nth_2, toInt_int, toList_list, toStr_str, c1, c2, iff_true', hk, hc, iff_false', w1]
  · have hc : hit nm (nth o i) = true := by simpa using hc
    have c1 : ltI (i : Int) o.length = true := ltT (by omega)
    have c2 : geI (i : Int) 0 = true := geT (by omega)
    have hk : ((i : Int)).toNat = i := by omega
    unfold hit at hc
    simp only [L19_0, nth_0, nth_1, nth_2, toInt_int, toList_list, toStr_str, c1, c2, iff_true', hk, hc]
  · have c1 : ltI (o.length : Int) o.length = false := ltF (by omega)
    simp only [L19_0, nth_0, nth_1, nth_2, toInt_int, toList_list, c1, iff_false']
end
theorem ot95 : (⟨#[95]⟩ : ByteArray) = sB [95] := rfl
theorem otDots : (⟨#[46, 46, 46]⟩ : ByteArray) = sB [46, 46, 46] := rfl
def unusedB (s nm : List UInt8) : Bool := match tokL s with
  | .inl o => symB nm && (!(nm == [95]) && (!(nm == [46, 46, 46]) && o.all fun p => !hit nm p))
  | .inr _ => false
theorem unusedI {s nm : List UInt8} (hn : nm.length ≤ 2000000) : Rn 20 [.str (sB s), .str (sB nm)] [.bool (unusedB s nm)] := by
  have ht := tokensI s
  have hy := symI hn
  have e1 := cmpN nm [95]
  have e2 := cmpN nm [46, 46, 46]
  unfold unusedB
  cases hk : tokL s with
  | inr a =>
    rw [hk] at ht
    have c0 : eqI (a : Int) (-1) = false := eqF (by omega)
    refine Is.of e20 (ht.mp fun n q => ?_)
    simp [F20, q, tokO, c0]
  | inl o =>
    rw [hk] at ht
    have ha := anyI (nm := nm) (tokL_len hk)
    have c0 : eqI (-1) (-1) = true := rfl
    refine Is.of e20 (ht.mp3 hy ha fun n q1 q2 q3 => ?_)
    cases h1 : symB nm <;> cases h2 : (nm == [95]) <;> cases h3 : (nm == [46, 46, 46]) <;> cases h4 : (o.all fun p => !hit nm p) <;> rw [h1] at q2 <;> rw [h2] at e1 <;> rw [h3] at e2 <;> rw [h4] at q3 <;> simp only [h4] <;> simp [F20, q1, tokO, c0, q2, ot95, otDots, e1, e2, q3]
theorem unusedS {s nm : List UInt8} (hn : nm.length ≤ 2000000) : Rn 19 [.str (sB s), .str (sB nm)] [.bool (unusedB s nm)] := by
  have ht := tokensS s
  have hy := symS hn
  have e1 := cmpE nm [95]
  have e2 := cmpE nm [46, 46, 46]
  unfold unusedB
  cases hk : tokL s with
  | inr a =>
    rw [hk] at ht
    have c0 : geI (a : Int) 0 = true := geT (by omega)
    refine Is.of e19 (ht.mp fun n q => ?_)
    simp [F19, q, tokO, c0]
  | inl o =>
    rw [hk] at ht
    have ha := specLoop (nm := nm) (tokL_len hk)
    have c0 : geI (-1) 0 = false := rfl
    refine Is.of e19 (ht.mp3 hy ha fun n q1 q2 q3 => ?_)
    cases h1 : symB nm <;> cases h2 : (nm == [95]) <;> cases h3 : (nm == [46, 46, 46]) <;> cases h4 : (o.all fun p => !hit nm p) <;> rw [h1] at q2 <;> rw [h2] at e1 <;> rw [h3] at e2 <;> rw [h4] at q3 <;> simp only [h4] <;> simp at q3 <;> simp [F19, q1, tokO, c0, q2, ot95, otDots, e1, e2, q3]
theorem law (s nm : List UInt8) : Rn 5 [.str (sB s), .str (sB nm)] [.bool true] := by
  have h1 : (sB s).size = s.length := size_sB _
  have h2 : (sB nm).size = nm.length := size_sB _
  by_cases b1 : s.length ≤ 1048576
  rotate_left
  · have c1 : gtI (s.length : Int) 1048576 = true := gtT (by omega)
    exact Is.of e5 (Evt.all fun n => by simp only [F5, nth_0, toStr_str, h1, c1, iff_true'])
  have c1 : gtI (s.length : Int) 1048576 = false := gtF (by omega)
  by_cases b2 : nm.length ≤ 1048576
  rotate_left
  · have c2 : gtI (nm.length : Int) 1048576 = true := gtT (by omega)
    exact Is.of e5 (Evt.all fun n => by simp only [F5, nth_0, nth_1, toStr_str, h1, h2, c1, iff_false', c2, iff_true'])
  have c2 : gtI (nm.length : Int) 1048576 = false := gtF (by omega)
  refine Is.of e5 ((unusedS (s := s) (nm := nm) (by omega)).mp2 (unusedI (s := s) (nm := nm) (by omega)) fun n q1 q2 => ?_)
  have tf : (true == false) = false := rfl
  simp only [F5, nth_0, nth_1, toStr_str, h1, h2, c1, c2, iff_false', q1, q2, Option.bind_some, toBool_bool, beq_self_eq_true, tf]
theorem strOf {q : PV} (h : WfT Tryd.prog 9 q) : ∃ l, q = .str (sB l) := by
  obtain ⟨s, rfl, _⟩ := wf_str (by kernel_rfl) h
  exact ⟨s.data.toList, by rw [sB_data]⟩
theorem pure_law (ps : List PV) (hl : ps.length = 2) (hwf : ∀ (j : Nat) t p, [9, 9][j]? = some t → ps[j]? = some p → WfT Tryd.prog t p) : ∃ n, ev Tryd.prog sg n 5 ps = some [.bool true] := by
  obtain ⟨p, q, rfl⟩ : ∃ p q, ps = [p, q] := by
    match ps, hl with
    | [a, b], _ => exact ⟨a, b, rfl⟩
  obtain ⟨s, rfl⟩ := strOf (hwf 0 9 p rfl rfl)
  obtain ⟨nm, rfl⟩ := strOf (hwf 1 9 q rfl rfl)
  exact (law s nm).get
end Go.Proofs.YthmhgnnaihkjaaaDoor.GFnExactUnused
