/- What functions of the program and of the reference come to, for the law FnExactFunsOf. Each under the conditions that it names. -/
import Derived.Test.YtfnhimhmhinjdaaDFnExactFunsOf
namespace Go.Proofs.Ytfnhimhmhinjdaa.GFnExactFunsOf
open Go Go.Rsc Go.Proofs.Ytfnhimhmhinjdaa
set_option maxRecDepth 100000
set_option linter.unusedVariables false
set_option linter.unusedSimpArgs false
def FunR (q : PV) : Prop := ∃ (free : Nat) (ops : List PV), q = .agg [.int free, .list ops] ∧ free ≤ 2147483647 ∧ ops.length ≤ 2097152 ∧ ∀ o, o ∈ ops → OpR o
theorem opR_wt {o : PV} (h : OpR o) : o.wt = 0 := by obtain ⟨c, n, m, rfl, _⟩ := h; simp
theorem rd_funs {l : List PV} (hb : Bytes l) (hl : l.length ≤ 1048576) : ∀ (μ at_ : Nat) (ok : Bool) (i m : Nat) (out : List PV), at_ ≤ l.length → slack ok (l.length - at_ + 1) ≤ μ → i ≤ m → m ≤ 2147483647 → out.length + PV.wts out + slack ok 2 ≤ at_ + 2 → (∀ q, q ∈ out → FunR q) →
    ∃ out' at' ok', at_ ≤ at' ∧ at' ≤ l.length ∧ (∀ q, q ∈ out' → FunR q) ∧ out'.length + PV.wts out' + slack ok' 2 ≤ at' + 2 ∧
      (Evt fun n => ∀ r, μ + 1 ≤ r → loopEv (L18_1 (ev Try.prog sg n) n) r [.int i, .int m, .list l, .list out, stS l at_ ok] = some (.x 0, [.list l, .list out', stS l at' ok'])) ∧
        Evt fun n => ∀ r, μ + 1 ≤ r → loopEv (L20_1 (ev Try.prog sg n) n) r [.int i, .int m, .list l, .list out, stS l at_ (!ok)] = some (.x 0, [.list l, .list out', stS l at' (!ok')]) := by
  intro μ
  induction μ with
  | zero =>
    intro at_ ok i m out ha hμ hk hm ho hp
    have hok : ok = false := by cases ok <;> simp [slack] at hμ ⊢
    subst hok
    refine ⟨out, at_, false, Nat.le_refl _, ha, hp, ho, Evt.all fun n r hr => ?_, Evt.all fun n r hr => ?_⟩
    all_goals
      obtain ⟨r, rfl⟩ : ∃ r', r = r' + 1 := ⟨r - 1, by omega⟩
      cases hc : ltI (i : Int) m <;> simp [loopEv, L18_1, L20_1, hc, stS]
  | succ μ ih =>
    intro at_ ok i m out ha hμ hk hm ho hp
    by_cases hgo : i < m ∧ ok = true
    rotate_left
    · refine ⟨out, at_, ok, Nat.le_refl _, ha, hp, ho, Evt.all fun n r hr => ?_, Evt.all fun n r hr => ?_⟩
      all_goals
        obtain ⟨r, rfl⟩ : ∃ r', r = r' + 1 := ⟨r - 1, by omega⟩
        by_cases hc : i < m
        · have hok : ok = false := by cases ok <;> simp_all
          simp (disch := omega) [loopEv, L18_1, L20_1, ltT, stS, hok]
        · simp (disch := omega) [loopEv, L18_1, L20_1, ltF, stS]
    · obtain ⟨hkm, rfl⟩ := hgo
      simp only [slack, if_true] at hμ ho
      obtain ⟨p1, p2, p3, p4⟩ := numT_spec ha true
      obtain ⟨q1, q2, q3, q4⟩ := numT_spec p2 (numT l at_ true).2.2
      have s1 := numS hb hl ha true
      have s2 := numS hb hl p2 (numT l at_ true).2.2
      have i1 := numI hb hl ha true
      have i2 := numI hb hl p2 (numT l at_ true).2.2
      revert p1 p2 p3 p4 q1 q2 q3 q4 s1 s2 i1 i2
      generalize numT l at_ true = t1
      obtain ⟨x, a1, k1⟩ := t1
      simp only
      generalize numT l a1 k1 = t2
      obtain ⟨y, a2, k2⟩ := t2
      simp only
      intro p1 p2 p3 p4 q1 q2 q3 q4 s1 s2 i1 i2
      have h2 : k2 = true → at_ + 2 ≤ a2 := fun h => by
        have e1 := (q4 h).1
        have := (p4 e1).2; have := (q4 h).2
        omega
      obtain ⟨ops', a3, k3, g1, g2, g3, g4, g5, g6, g7⟩ := rd_ops hb hl (slack k2 (l.length - a2 + 1)) a2 k2 0 y [] q2 (Nat.le_refl _) (by omega) q3 (by cases k2 <;> simp [slack]) (fun o ho => by cases ho)
      simp only [List.length_nil, Nat.zero_add] at g5 g6
      have hz : PV.wts ops' = 0 := wts_zero fun o ho => opR_wt (g4 o ho)
      have hfw : (PV.agg [.int x, .list ops']).wt = ops'.length := by simp [hz]
      have hs1 : slack k2 1 ≤ 1 := by cases k2 <;> simp [slack]
      obtain ⟨out', at', ok', f1, f2, f3, f4, f5, f6⟩ := ih a3 k3 (i + 1) m (out ++ [.agg [.int x, .list ops']]) g2 (by
        cases k3 with
        | false => simp [slack]
        | true => have := h2 (g3 rfl); simp only [slack, if_true]; omega) (by omega) hm (by
        rw [wts_append, wts_cons, wts_nil, hfw, List.length_append, List.length_singleton]
        cases k3 with
        | false => simp only [slack, Bool.false_eq_true, if_false]; omega
        | true => have := h2 (g3 rfl); have := g6 rfl; simp only [slack, if_true]; omega) (fun q hq => by
        rcases List.mem_append.1 hq with h | h
        · exact hp q h
        · simp only [List.mem_singleton] at h; exact ⟨x, ops', h, p3, by omega, g4⟩)
      have hol : out.length ≤ 2097152 := by omega
      refine ⟨out', at', ok', by omega, f2, f3, f4, ?_, ?_⟩
      · refine (s1.and s2).mp3 ((g7 (.list out) (.int i) (.int m) (.list l) x).1.and (Evt.ge (l.length + 3))) f5 fun n e1 e3 e4 r hr => ?_
        obtain ⟨r, rfl⟩ : ∃ r', r = r' + 1 := ⟨r - 1, by omega⟩
        have e5 := e3.1 n (by have := e3.2; cases k2 <;> simp [slack] <;> omega)
        simp only [show ((0 : Nat) : Int) = 0 from rfl] at e5
        have hB : L18_1 (ev Try.prog sg n) n [.int i, .int m, .list l, .list out, stS l at_ true] = some (.n, [.int ((i + 1 : Nat) : Int), .int m, .list l, .list (out ++ [.agg [.int x, .list ops']]), stS l a3 k3]) := by
          have hc : (selB (ltI (i : Int) (m : Int)) (selB ((ltI (i : Int) (m : Int)) == true) ((stS l at_ true).fld 2) PV.unit) (PV.bool false)).toBool = true := by simp (disch := omega) [ltT, stS]
          simp (disch := omega) only [L18_1, nth_0, nth_1, nth_2, nth_3, nth_4, toInt_int, hc, iff_true', e1.1, e1.2, e5, Option.bind_some, leNT, toList_list, List.length_cons, List.length_nil, wrap64, thenE_some, passB_same, thenN_n]
          simp
        simp only [loopEv, hB, thenN_n]
        exact e4 r (by omega)
      · refine (i1.and i2).mp3 ((g7 (.list out) (.int i) (.int m) (.list l) x).2.and (Evt.ge (l.length + 3))) f6 fun n e1 e3 e4 r hr => ?_
        obtain ⟨r, rfl⟩ : ∃ r', r = r' + 1 := ⟨r - 1, by omega⟩
        have e5 := e3.1 n (by have := e3.2; cases k2 <;> simp [slack] <;> omega)
        simp only [show ((0 : Nat) : Int) = 0 from rfl] at e5
        have hB : L20_1 (ev Try.prog sg n) n [.int i, .int m, .list l, .list out, stS l at_ (!true)] = some (.n, [.int ((i + 1 : Nat) : Int), .int m, .list l, .list (out ++ [.agg [.int x, .list ops']]), stS l a3 (!k3)]) := by
          have hc : (selB (ltI (i : Int) (m : Int)) (selB ((ltI (i : Int) (m : Int)) == true) (PV.bool (!(selB ((ltI (i : Int) (m : Int)) == true) ((stS l at_ (!true)).fld 2) PV.unit).toBool)) PV.unit) (PV.bool false)).toBool = true := by simp (disch := omega) [ltT, stS]
          simp (disch := omega) only [L20_1, nth_0, nth_1, nth_2, nth_3, nth_4, toInt_int, hc, iff_true', e1.1, e1.2, e5, Option.bind_some, leNT, toList_list, List.length_cons, List.length_nil, wrap64, thenE_some, passB_same, thenN_n]
          simp
        simp only [loopEv, hB, thenN_n]
        exact e4 r (by omega)
theorem funR_ok {q : PV} (h : FunR q) (hw : q.wt ≤ 1048576) : FunOk q := by
  obtain ⟨free, ops, rfl, _, _, ho⟩ := h
  simp at hw
  refine ⟨free, ops, rfl, by omega, fun o hoo => ?_⟩
  obtain ⟨c, n, m, rfl, _⟩ := ho o hoo
  exact ⟨_, _, _, rfl⟩
/-- Both come to the same. -/
theorem funsOf {l : List PV} (hb : Bytes l) (hl : l.length ≤ 1048576) : ∃ (out : List PV) (ok : Bool), (∀ q, q ∈ out → FunR q) ∧ out.length + PV.wts out ≤ 1048576 ∧ Rn 18 [.list l] [.list out, .bool ok] ∧ Rn 20 [.list l] [.list out, .bool ok] := by
  have s1 := numS hb hl (Nat.zero_le l.length) true
  have i1 := numI hb hl (Nat.zero_le l.length) true
  obtain ⟨p1, p2, p3, p4⟩ := numT_spec (Nat.zero_le l.length) true
  revert p1 p2 p3 p4 s1 i1
  generalize numT l 0 true = t1
  obtain ⟨x, a1, k1⟩ := t1
  simp only
  intro s1 i1 p1 p2 p3 p4
  obtain ⟨out, at', ok', f1, f2, f3, f4, f5, f6⟩ := rd_funs hb hl (l.length + 1) a1 k1 0 x [] p2 (by cases k1 <;> simp [slack] <;> omega) (by omega) p3 (by cases k1 <;> simp [slack]) (fun q hq => by cases hq)
  simp only [show ((0 : Nat) : Int) = 0 from rfl, stS] at f5 f6 s1 i1
  have hsum : ok' = true → out.length + PV.wts out ≤ 1048576 := fun h => by subst h; simp only [slack, if_true] at f4; omega
  by_cases hgo : ok' = true ∧ at' = l.length
  rotate_left
  · refine ⟨[], false, fun q hq => (by cases hq), by simp, Is.of e18 (s1.mp3 f5 (Evt.ge (l.length + 2)) fun n h1 h2 h3 => ?_), Is.of e20 (i1.mp3 f6 (Evt.ge (l.length + 2)) fun n h1 h2 h3 => ?_)⟩
    · have h4 := h2 n (by omega)
      by_cases hok : ok' = true
      · have hne : ((at' : Nat) : Int) ≠ (l.length : Int) := fun h => hgo ⟨hok, by omega⟩
        simp [F18, h1, h4, hok, neT hne]
      · have hok : ok' = false := by simpa using hok
        simp [F18, h1, h4, hok]
    · have h4 := h2 n (by omega)
      by_cases hok : ok' = true
      · have hne : ((at' : Nat) : Int) ≠ (l.length : Int) := fun h => hgo ⟨hok, by omega⟩
        simp at h1
        simp [F20, h1, h4, hok, neT hne]
      · have hok : ok' = false := by simpa using hok
        simp at h1
        simp [F20, h1, h4, hok]
  · obtain ⟨rfl, rfl⟩ := hgo
    have hsum := hsum rfl
    have hf : ∀ q, q ∈ out → FunOk q := fun q hq => funR_ok (f3 q hq) (by have := wt_mem hq; omega)
    have c1 := fun41 (l := out) (by omega) hf
    have c2 := fun44 (l := out) (by omega) hf
    cases hk : funsOk out with
    | false =>
      refine ⟨[], false, fun q hq => (by cases hq), by simp, Is.of e18 ((s1.and c1).mp3 f5 (Evt.ge (l.length + 2)) fun n h1 h2 h3 => ?_), Is.of e20 ((i1.and c2).mp3 f6 (Evt.ge (l.length + 2)) fun n h1 h2 h3 => ?_)⟩
      · have h4 := h2 n (by omega)
        obtain ⟨h1, h5⟩ := h1
        simp (disch := omega) [F18, h1, h4, h5, hk, neF]
      · have h4 := h2 n (by omega)
        obtain ⟨h1, h5⟩ := h1
        simp at h1 h4
        simp (disch := omega) [F20, h1, h4, h5, hk, neF]
    | true =>
      refine ⟨out, true, f3, hsum, Is.of e18 ((s1.and c1).mp3 f5 (Evt.ge (l.length + 2)) fun n h1 h2 h3 => ?_), Is.of e20 ((i1.and c2).mp3 f6 (Evt.ge (l.length + 2)) fun n h1 h2 h3 => ?_)⟩
      · have h4 := h2 n (by omega)
        obtain ⟨h1, h5⟩ := h1
        simp (disch := omega) [F18, h1, h4, h5, hk, neF]
      · have h4 := h2 n (by omega)
        obtain ⟨h1, h5⟩ := h1
        simp at h1 h4
        simp (disch := omega) [F20, h1, h4, h5, hk, neF]
end Go.Proofs.Ytfnhimhmhinjdaa.GFnExactFunsOf
