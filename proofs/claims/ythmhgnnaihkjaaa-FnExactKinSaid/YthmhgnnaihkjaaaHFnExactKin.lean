/- What functions of the program and of the reference come to, for the law FnExactKin. Each under the conditions that it names. -/
import Derived.Test.YthmhgnnaihkjaaaEFnExactKin
namespace Go.Proofs.Ythmhgnnaihkjaaa.GFnExactKin
open Go Go.Rsc Go.Proofs.Ythmhgnnaihkjaaa
set_option maxRecDepth 100000
set_option linter.unusedVariables false
set_option linter.unusedSimpArgs false
/-! ### Rounds of both -/
section
variable {rs : List (Int × Int)} {a : List Int}
def stK (a : List Int) (rs : List (Int × Int)) (v : List Int) (i : Nat) : List Int × Bool := (rs.take i).foldl (kst a) (v, false)
theorem stK_succ {v : List Int} {i : Nat} (h : i < rs.length) : stK a rs v (i + 1) = kst a (stK a rs v i) (rs.getD i (0, 0)) := by
  unfold stK
  rw [take_snoc (d := (0, 0)) h, List.foldl_append]
  rfl
theorem getD_mem {i : Nat} (h : i < rs.length) : rs.getD i (0, 0) ∈ rs := by
  have : rs.getD i (0, 0) = rs[i] := by simp [List.getD_eq_getElem?_getD, h]
  rw [this]; exact List.getElem_mem h
theorem stK_len (hpos : ∀ x, x ∈ a → 0 ≤ x) (hin : ∀ r, r ∈ rs → (0 ≤ r.1 → r.1 ∈ a) ∧ (0 ≤ r.2 → r.2 ∈ a)) {v : List Int} (h : Inv a rs v) (i : Nat) : (stK a rs v i).1.length = a.length :=
  (round_inv hpos hin (rs.take i) v false (fun r hr => List.mem_of_mem_take hr) h).1.len
theorem roundI (hpos : ∀ x, x ∈ a → 0 ≤ x) (hin : ∀ r, r ∈ rs → (0 ≤ r.1 → r.1 ∈ a) ∧ (0 ≤ r.2 → r.2 ∈ a)) (hl : rs.length ≤ 1048576) {v : List Int} (h : Inv a rs v) (x y : PV) :
    Evt fun n => loopEv (L20_2 (ev Try.prog sg n) n) n [.int 0, .int rs.length, refsV rs, .bool false, x, y, .list (mpV a v)] = some (.x 6, [.bool (rs.foldl (kst a) (v, false)).2, x, y, .list (mpV a (rs.foldl (kst a) (v, false)).1)]) := by
  have h1 := loop_run (body := fun m => L20_2 (ev Try.prog sg m) m) (fun i => [.int i, .int rs.length, refsV rs, .bool (stK a rs v i).2, x, y, .list (mpV a (stK a rs v i).1)]) rs.length (e := .x 6) (res := [.bool (rs.foldl (kst a) (v, false)).2, x, y, .list (mpV a (rs.foldl (kst a) (v, false)).1)]) (fun i hi => Evt.all fun m => ?_) (Evt.all fun m => ?_) (by decide)
  · exact h1
  · rw [stK_succ hi]
    exact stepI hl hi (stK a rs v i).2 (stK_len hpos hin h i) (hin _ (getD_mem hi)).1 (hin _ (getD_mem hi)).2 x y m
  · have c1 : ltI (rs.length : Int) rs.length = false := ltF (by omega)
    unfold stK
    rw [List.take_length]
    simp only [L20_2, nth_0, nth_1, nth_3, nth_4, nth_5, nth_6, toInt_int, c1, iff_false']
theorem roundS (hal : a.length ≤ 4194304) (hpos : ∀ x, x ∈ a → 0 ≤ x) (hin : ∀ r, r ∈ rs → (0 ≤ r.1 → r.1 ∈ a) ∧ (0 ≤ r.2 → r.2 ∈ a)) (hl : rs.length ≤ 1048576) {v : List Int} (h : Inv a rs v) :
    Evt fun n => loopEv (L18_1 (ev Try.prog sg n) n) n [.int 0, .bool false, refsV rs, ints v, ints a] = some (.x 4, [.bool (rs.foldl (kst a) (v, false)).2, refsV rs, ints (rs.foldl (kst a) (v, false)).1, ints a]) := by
  have hrl := refs_len rs
  have h1 := loop_run (body := fun m => L18_1 (ev Try.prog sg m) m) (fun i => [.int i, .bool (stK a rs v i).2, refsV rs, ints (stK a rs v i).1, ints a]) rs.length (e := .x 4) (res := [.bool (rs.foldl (kst a) (v, false)).2, refsV rs, ints (rs.foldl (kst a) (v, false)).1, ints a]) (fun i hi => ?_) (Evt.all fun m => ?_) (by decide)
  · exact h1
  · rw [stK_succ hi]
    exact stepS hal hpos hl hi (stK a rs v i).2 (stK_len hpos hin h i) (hin _ (getD_mem hi)).1 (hin _ (getD_mem hi)).2
  · have c1 : ltI (rs.length : Int) rs.length = false := ltF (by omega)
    unfold stK
    rw [List.take_length]
    simp only [L18_1, nth_0, nth_1, nth_2, nth_3, nth_4, toInt_int, toList_list, hrl, c1, iff_false']
theorem outI (hpos : ∀ x, x ∈ a → 0 ≤ x) (hin : ∀ r, r ∈ rs → (0 ≤ r.1 → r.1 ∈ a) ∧ (0 ≤ r.2 → r.2 ∈ a)) (hl : rs.length ≤ 1048576) {v : List Int} (h : Inv a rs v) :
    Evt fun n => L20_3 (ev Try.prog sg n) n [.bool true, refsV rs, ints a, .list (mpV a v)] = some (.n, [.bool (rs.foldl (kst a) (v, false)).2, refsV rs, ints a, .list (mpV a (rs.foldl (kst a) (v, false)).1)]) := by
  have hrl := refs_len rs
  refine (roundI hpos hin hl h (refsV rs) (ints a)).mp fun n q => ?_
  simp only [L20_3, nth_0, nth_1, nth_2, nth_3, toBool_bool, toList_list, hrl, iff_true', q, thenE_some, passB_same, thenN_n]
theorem outS (hal : a.length ≤ 4194304) (hpos : ∀ x, x ∈ a → 0 ≤ x) (hin : ∀ r, r ∈ rs → (0 ≤ r.1 → r.1 ∈ a) ∧ (0 ≤ r.2 → r.2 ∈ a)) (hl : rs.length ≤ 1048576) {v : List Int} (h : Inv a rs v) :
    Evt fun n => L18_2 (ev Try.prog sg n) n [.bool true, refsV rs, ints v, ints a] = some (.n, [.bool (rs.foldl (kst a) (v, false)).2, refsV rs, ints (rs.foldl (kst a) (v, false)).1, ints a]) := by
  refine (roundS hal hpos hin hl h).mp fun n q => ?_
  simp only [L18_2, nth_0, nth_1, nth_2, nth_3, toBool_bool, iff_true', q, thenE_some, passB_same, thenN_n]
theorem rounds (hal : a.length ≤ 4194304) (hpos : ∀ x, x ∈ a → 0 ≤ x) (hin : ∀ r, r ∈ rs → (0 ≤ r.1 → r.1 ∈ a) ∧ (0 ≤ r.2 → r.2 ∈ a)) (hl : rs.length ≤ 1048576) : ∀ (d : Nat) (v : List Int), msum v ≤ d → Inv a rs v →
    ∃ v', Inv a rs v' ∧ (∀ r, r ∈ rs → skip a v' r = true) ∧ (Evt fun n => ∀ m, d + 2 ≤ m → loopEv (L20_3 (ev Try.prog sg n) n) m [.bool true, refsV rs, ints a, .list (mpV a v)] = some (.x 4, [ints a, .list (mpV a v')])) ∧
      (Evt fun n => ∀ m, d + 2 ≤ m → loopEv (L18_2 (ev Try.prog sg n) n) m [.bool true, refsV rs, ints v, ints a] = some (.x 2, [ints v', ints a])) := by
  have endI : ∀ (v : List Int) n, L20_3 (ev Try.prog sg n) n [.bool false, refsV rs, ints a, .list (mpV a v)] = some (.x 4, [ints a, .list (mpV a v)]) := fun v n => by
    simp only [L20_3, nth_0, nth_1, nth_2, nth_3, toBool_bool, iff_false']
  have endS : ∀ (v : List Int) n, L18_2 (ev Try.prog sg n) n [.bool false, refsV rs, ints v, ints a] = some (.x 2, [ints v, ints a]) := fun v n => by
    simp only [L18_2, nth_0, nth_1, nth_2, nth_3, toBool_bool, iff_false']
  intro d
  induction d with
  | zero =>
    intro v hd h
    obtain ⟨i1, i2, i3⟩ := round_inv hpos hin rs v false (fun r hr => hr) h
    have oi := outI hpos hin hl h
    have os := outS hal hpos hin hl h
    rcases i3 with ⟨e1, e2, e3⟩ | ⟨_, e⟩
    · rw [e1, e2] at oi os
      refine ⟨v, h, e3, oi.mp fun n q m hm => ?_, os.mp fun n q m hm => ?_⟩ <;> obtain ⟨m, rfl⟩ : ∃ m', m = m' + 2 := ⟨m - 2, by omega⟩
      · simp only [loopEv, q, thenN_n, endI, thenN_x, passE_eq]
      · simp only [loopEv, q, thenN_n, endS, thenN_x, passE_eq]
    · omega
  | succ d ih =>
    intro v hd h
    obtain ⟨i1, i2, i3⟩ := round_inv hpos hin rs v false (fun r hr => hr) h
    have oi := outI hpos hin hl h
    have os := outS hal hpos hin hl h
    rcases i3 with ⟨e1, e2, e3⟩ | ⟨e1, e⟩
    · rw [e1, e2] at oi os
      refine ⟨v, h, e3, oi.mp fun n q m hm => ?_, os.mp fun n q m hm => ?_⟩ <;> obtain ⟨m, rfl⟩ : ∃ m', m = m' + 2 := ⟨m - 2, by omega⟩
      · simp only [loopEv, q, thenN_n, endI, thenN_x, passE_eq]
      · simp only [loopEv, q, thenN_n, endS, thenN_x, passE_eq]
    · rw [e1] at oi os
      obtain ⟨v', g1, g2, g3, g4⟩ := ih _ (by omega) i1
      refine ⟨v', g1, g2, oi.mp2 g3 fun n q q2 m hm => ?_, os.mp2 g4 fun n q q2 m hm => ?_⟩ <;> obtain ⟨m, rfl⟩ : ∃ m', m = m' + 1 := ⟨m - 1, by omega⟩
      · simp only [loopEv, q, thenN_n]
        exact q2 m (by omega)
      · simp only [loopEv, q, thenN_n]
        exact q2 m (by omega)
end
end Go.Proofs.Ythmhgnnaihkjaaa.GFnExactKin
