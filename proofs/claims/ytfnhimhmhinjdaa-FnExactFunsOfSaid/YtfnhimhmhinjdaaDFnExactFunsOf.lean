/- What functions of the program and of the reference come to, for the law FnExactFunsOf. Each under the conditions that it names. -/
import Derived.Test.YtfnhimhmhinjdaaCFnExactFunsOf
namespace Go.Proofs.Ytfnhimhmhinjdaa.GFnExactFunsOf
open Go Go.Rsc Go.Proofs.Ytfnhimhmhinjdaa
set_option maxRecDepth 100000
set_option linter.unusedVariables false
set_option linter.unusedSimpArgs false
/-! ### Functions out of bytes -/
def numT (l : List PV) (at_ : Nat) (ok : Bool) : Nat × Nat × Bool := match getN l at_ with
  | some (n, a) => if ok then (n, a, true) else (0, at_, false)
  | none => (0, at_, false)
def stS (l : List PV) (at_ : Nat) (ok : Bool) : PV := .agg [.list l, .int at_, .bool ok]
theorem numT_spec {l : List PV} {at_ : Nat} (ha : at_ ≤ l.length) (ok : Bool) : at_ ≤ (numT l at_ ok).2.1 ∧ (numT l at_ ok).2.1 ≤ l.length ∧ (numT l at_ ok).1 ≤ 2147483647 ∧ ((numT l at_ ok).2.2 = true → ok = true ∧ at_ < (numT l at_ ok).2.1) := by
  unfold numT
  cases h : getN l at_ with
  | none => simp; omega
  | some q =>
    obtain ⟨n, a⟩ := q
    have := getO_spec h
    cases ok <;> simp <;> omega
theorem numS {l : List PV} (hb : Bytes l) (hl : l.length ≤ 1048576) {at_ : Nat} (ha : at_ ≤ l.length) (ok : Bool) : Rn 48 [stS l at_ ok] [.int (numT l at_ ok).1, stS l (numT l at_ ok).2.1 (numT l at_ ok).2.2] := by
  refine Is.of e48 ((getSpec hb hl ha).mp fun n h => ?_)
  unfold numT
  cases hg : getN l at_ with
  | none => rw [hg] at h; simp [F48, stS, h, outO, badT]
  | some q =>
    obtain ⟨m, a⟩ := q
    rw [hg] at h
    cases ok <;> simp [F48, stS, h, outO]
theorem numI {l : List PV} (hb : Bytes l) (hl : l.length ≤ 1048576) {at_ : Nat} (ha : at_ ≤ l.length) (ok : Bool) : Rn 49 [stS l at_ (!ok)] [.int (numT l at_ ok).1, stS l (numT l at_ ok).2.1 (!(numT l at_ ok).2.2)] := by
  refine Is.of e49 ((getImpl hb hl ha).mp fun n h => ?_)
  unfold numT
  cases hg : getN l at_ with
  | none => rw [hg] at h; cases ok <;> simp [F49, stS, h, outO, badT]
  | some q =>
    obtain ⟨m, a⟩ := q
    rw [hg] at h
    cases ok <;> simp [F49, stS, h, outO]
def OpR (o : PV) : Prop := ∃ c n m : Nat, o = .agg [.int c, .int ((n : Int) - 1073741824), .int m] ∧ c ≤ 2147483647 ∧ n ≤ 2147483647 ∧ m ≤ 2147483647
def slack (ok : Bool) (n : Nat) : Nat := if ok then n else 0
theorem rd_ops {l : List PV} (hb : Bytes l) (hl : l.length ≤ 1048576) : ∀ (μ at_ : Nat) (ok : Bool) (k m : Nat) (ops : List PV), at_ ≤ l.length → slack ok (l.length - at_ + 1) ≤ μ → k ≤ m → m ≤ 2147483647 → ops.length + slack ok 1 ≤ at_ + 1 → (∀ o, o ∈ ops → OpR o) →
    ∃ ops' at' ok', at_ ≤ at' ∧ at' ≤ l.length ∧ (ok' = true → ok = true) ∧ (∀ o, o ∈ ops' → OpR o) ∧ ops'.length + at_ ≤ ops.length + at' + slack ok 1 ∧ (ok' = true → ops'.length + at_ ≤ ops.length + at') ∧
      (∀ (a b c d : PV) (free : Int), (Evt fun n => ∀ r, μ + 1 ≤ r → loopEv (L18_0 (ev Try.prog sg n) n) r [.int k, .int m, a, b, c, d, .agg [.int free, .list ops], stS l at_ ok] = some (.x 2, [a, b, c, d, .agg [.int free, .list ops'], stS l at' ok'])) ∧
        Evt fun n => ∀ r, μ + 1 ≤ r → loopEv (L20_0 (ev Try.prog sg n) n) r [.int k, .int m, a, b, c, d, .agg [.int free, .list ops], stS l at_ (!ok)] = some (.x 2, [a, b, c, d, .agg [.int free, .list ops'], stS l at' (!ok')])) := by
  intro μ
  induction μ with
  | zero =>
    intro at_ ok k m ops ha hμ hk hm ho hp
    have hok : ok = false := by cases ok <;> simp [slack] at hμ ⊢
    subst hok
    refine ⟨ops, at_, false, Nat.le_refl _, ha, fun h => h, hp, by simp [slack], fun h => (by cases h), fun a b c d free => ⟨Evt.all fun n r hr => ?_, Evt.all fun n r hr => ?_⟩⟩
    all_goals
      obtain ⟨r, rfl⟩ : ∃ r', r = r' + 1 := ⟨r - 1, by omega⟩
      cases hc : ltI (k : Int) m <;> simp [loopEv, L18_0, L20_0, hc, stS]
  | succ μ ih =>
    intro at_ ok k m ops ha hμ hk hm ho hp
    by_cases hgo : k < m ∧ ok = true
    rotate_left
    · refine ⟨ops, at_, ok, Nat.le_refl _, ha, fun h => h, hp, by omega, fun h => Nat.le_refl _, fun a b c d free => ⟨Evt.all fun n r hr => ?_, Evt.all fun n r hr => ?_⟩⟩
      all_goals
        obtain ⟨r, rfl⟩ : ∃ r', r = r' + 1 := ⟨r - 1, by omega⟩
        by_cases hc : k < m
        · have hok : ok = false := by cases ok <;> simp_all
          simp (disch := omega) [loopEv, L18_0, L20_0, ltT, stS, hok]
        · simp (disch := omega) [loopEv, L18_0, L20_0, ltF, stS]
    · obtain ⟨hkm, rfl⟩ := hgo
      simp only [slack, if_true] at hμ ho
      obtain ⟨p1, p2, p3, p4⟩ := numT_spec ha true
      obtain ⟨q1, q2, q3, q4⟩ := numT_spec p2 (numT l at_ true).2.2
      obtain ⟨r1, r2, r3, r4⟩ := numT_spec q2 (numT l (numT l at_ true).2.1 (numT l at_ true).2.2).2.2
      have s1 := numS hb hl ha true
      have s2 := numS hb hl p2 (numT l at_ true).2.2
      have s3 := numS hb hl q2 (numT l (numT l at_ true).2.1 (numT l at_ true).2.2).2.2
      have i1 := numI hb hl ha true
      have i2 := numI hb hl p2 (numT l at_ true).2.2
      have i3 := numI hb hl q2 (numT l (numT l at_ true).2.1 (numT l at_ true).2.2).2.2
      revert p1 p2 p3 p4 q1 q2 q3 q4 r1 r2 r3 r4 s1 s2 s3 i1 i2 i3
      generalize numT l at_ true = t1
      obtain ⟨x, a1, k1⟩ := t1
      simp only
      generalize numT l a1 k1 = t2
      obtain ⟨y, a2, k2⟩ := t2
      simp only
      generalize numT l a2 k2 = t3
      obtain ⟨z, a3, k3⟩ := t3
      simp only
      intro p1 p2 p3 p4 q1 q2 q3 q4 r1 r2 r3 r4 s1 s2 s3 i1 i2 i3
      have h3 : k3 = true → at_ + 3 ≤ a3 := fun h => by
        have e2 := (r4 h).1
        have e1 := (q4 e2).1
        have := (p4 e1).2; have := (q4 e2).2; have := (r4 h).2
        omega
      obtain ⟨ops', at', ok', g1, g2, g3, g4, g5, g6, g7⟩ := ih a3 k3 (k + 1) m (ops ++ [.agg [.int x, .int ((y : Int) - 1073741824), .int z]]) r2 (by
        cases k3 with
        | false => simp [slack]
        | true => have := h3 rfl; simp only [slack, if_true]; omega) (by omega) hm (by
        simp only [List.length_append, List.length_singleton]
        cases k3 with
        | false => simp only [slack, Bool.false_eq_true, if_false]; omega
        | true => have := h3 rfl; simp only [slack, if_true]; omega) (fun o ho => by
        rcases List.mem_append.1 ho with h | h
        · exact hp o h
        · simp only [List.mem_singleton] at h; exact ⟨x, y, z, h, p3, q3, r3⟩)
      simp only [List.length_append, List.length_singleton] at g5 g6
      refine ⟨ops', at', ok', by omega, g2, fun _ => trivial, g4, ?_, fun h => ?_, fun a b c d free => ⟨?_, ?_⟩⟩
      · cases k3 with
        | false => simp only [slack, if_true, Bool.false_eq_true, if_false] at g5 ⊢; omega
        | true => have := h3 rfl; simp only [slack, if_true] at g5 ⊢; omega
      · have := h3 (g3 h); have := g6 h; omega
      · refine (s1.and s2).mp3 s3 (g7 a b c d free).1 fun n e1 e3 e4 r hr => ?_
        obtain ⟨r, rfl⟩ : ∃ r', r = r' + 1 := ⟨r - 1, by omega⟩
        have hB : L18_0 (ev Try.prog sg n) n [.int k, .int m, a, b, c, d, .agg [.int free, .list ops], stS l at_ true] = some (.n, [.int ((k + 1 : Nat) : Int), .int m, a, b, c, d, .agg [.int free, .list (ops ++ [.agg [.int x, .int ((y : Int) - 1073741824), .int z]])], stS l a3 k3]) := by
          have w : IntKind.i64.wrap ((y : Int) - 1073741824) = (y : Int) - 1073741824 := wrap64 (by omega) (by omega)
          simp (disch := omega) only [L18_0, nth_0, nth_1, nth_2, nth_3, nth_4, nth_5, nth_6, nth_7, toInt_int, ltT, selB_true, beqT, iff_true', e1.1, e1.2, e3, Option.bind_some, leNT, fld_agg, toList_list, setFld_agg, List.set_cons_succ, List.set_cons_zero, List.length_cons, List.length_nil, wrap64, w]
          simp [stS]
        simp only [loopEv, hB, thenN_n]
        exact e4 r (by omega)
      · refine (i1.and i2).mp3 i3 (g7 a b c d free).2 fun n e1 e3 e4 r hr => ?_
        obtain ⟨r, rfl⟩ : ∃ r', r = r' + 1 := ⟨r - 1, by omega⟩
        have hB : L20_0 (ev Try.prog sg n) n [.int k, .int m, a, b, c, d, .agg [.int free, .list ops], stS l at_ (!true)] = some (.n, [.int ((k + 1 : Nat) : Int), .int m, a, b, c, d, .agg [.int free, .list (ops ++ [.agg [.int x, .int ((y : Int) - 1073741824), .int z]])], stS l a3 (!k3)]) := by
          have w : IntKind.i64.wrap ((y : Int) - 1073741824) = (y : Int) - 1073741824 := wrap64 (by omega) (by omega)
          simp (disch := omega) only [L20_0, nth_0, nth_1, nth_2, nth_3, nth_4, nth_5, nth_6, nth_7, toInt_int, ltT, selB_true, beqT, iff_true', e1.1, e1.2, e3, Option.bind_some, leNT, fld_agg, toList_list, setFld_agg, List.set_cons_succ, List.set_cons_zero, List.length_cons, List.length_nil, wrap64, w]
          simp [stS]
        simp only [loopEv, hB, thenN_n]
        exact e4 r (by omega)
end Go.Proofs.Ytfnhimhmhinjdaa.GFnExactFunsOf
