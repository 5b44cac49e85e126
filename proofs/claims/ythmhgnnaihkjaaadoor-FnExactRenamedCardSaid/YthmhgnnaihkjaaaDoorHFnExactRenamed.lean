/- What functions of the program and of the reference come to, for the law FnExactRenamed. Each under the conditions that it names. -/
import Derived.Test.YthmhgnnaihkjaaaDoorEFnExactRenamed
namespace Go.Proofs.YthmhgnnaihkjaaaDoor.GFnExactRenamed
open Go Go.Rsc Go.Proofs.YthmhgnnaihkjaaaDoor
set_option maxRecDepth 100000
set_option linter.unusedVariables false
set_option linter.unusedSimpArgs false
/-! ### Tokens, one by one -/
def tnI (l : List UInt8) (i : Nat) (out : List PV) : TN → Ex × List PV
  | .skip => (.n, [.int (i + 1 : Nat), .str (sB l), .list out])
  | .tok t to => (.n, [.int to, .str (sB l), .list (out ++ [t])])
  | .bad => (.r, [.list [], .int i])
def tnS (l : List UInt8) (i : Nat) (out : List PV) : TN → Ex × List PV
  | .skip => (.n, [.str (sB l), .list [], .int (i + 1 : Nat), .list out])
  | .tok t to => (.n, [.str (sB l), .list [], .int to, .list (out ++ [t])])
  | .bad => (.r, [.list [], .int i])
theorem eqs (b : UInt8) : eqI (b.toNat : Int) 32 = (b == 32) ∧ eqI (b.toNat : Int) 10 = (b == 10) ∧ eqI (b.toNat : Int) 40 = (b == 40) ∧ eqI (b.toNat : Int) 41 = (b == 41) :=
  ⟨eq_k b (k := 32) (by decide), eq_k b (k := 10) (by decide), eq_k b (k := 40) (by decide), eq_k b (k := 41) (by decide)⟩
theorem wAt_len (l : List UInt8) (i : Nat) : (wAt l i).length ≤ l.length := by
  unfold wAt
  rw [List.length_take, List.length_drop]
  omega
theorem wAt_ne {l : List UInt8} {i : Nat} (h : i < l.length) (hs : sep (l.getD i 0) = false) : wAt l i ≠ [40] ∧ wAt l i ≠ [41] := by
  have e := wLen_step l h hs
  have e1 : wAt l i = l.getD i 0 :: (l.drop (i + 1)).take (wLen l (i + 1)) := by
    unfold wAt
    rw [e, drop_at l h, List.take_succ_cons]
  rw [e1]
  refine ⟨fun hc => ?_, fun hc => ?_⟩
  · rw [(List.cons.inj hc).1] at hs
    exact absurd hs (by decide)
  · rw [(List.cons.inj hc).1] at hs
    exact absurd hs (by decide)
section
variable {l : List UInt8} {i : Nat} {out : List PV}
theorem stepI (hl : l.length ≤ 4000) (hi : i < l.length) (ho : out.length ≤ 4000) : Evt fun n => L45_1 (ev Tryd.prog sg n) n [.int i, .str (sB l), .list out] = some (tnI l i out (nextT l i)) := by
  have hs : (sB l).size = l.length := size_sB _
  obtain ⟨e32, e10, e40, e41⟩ := eqs (l.getD i 0)
  have n40 : neI ((l.getD i 0).toNat : Int) 40 = !eqI ((l.getD i 0).toNat : Int) 40 := rfl
  have n41 : neI ((l.getD i 0).toNat : Int) 41 = !eqI ((l.getD i 0).toNat : Int) 41 := rfl
  have hk : ((i : Int)).toNat = i := by omega
  have hk1 : (((i + 1 : Nat) : Int)).toNat = i + 1 := by omega
  have c1 : ltI (i : Int) l.length = true := ltT (by omega)
  have c2 : geI (i : Int) 0 = true := geT (by omega)
  have w1 : IntKind.i64.wrap ((i : Int) + 1) = ((i + 1 : Nat) : Int) := by rw [wrap64 (by omega) (by omega)]; omega
  have c3 : leI (i : Int) ((i + 1 : Nat) : Int) = true := leT (by omega)
  have c4 : leI ((i + 1 : Nat) : Int) l.length = true := leT (by omega)
  have tf : (true == false) = false := rfl
  have ft : (false == true) = false := rfl
  have one : (sB l).extract i (i + 1) = sB [l.getD i 0] := by
    rw [ext_sB, drop_at l hi, show i + 1 - i = 1 by omega]
    rfl
  have lo : ∀ t : PV, leN (out.length + [t].length) 3518437208883 = true := fun t => leNT (by simp; omega)
  unfold nextT
  cases k32 : (l.getD i 0 == 32) with
  | true =>
    rw [k32] at e32
    refine Evt.all fun n => ?_
    simp only [L45_1, nth_0, nth_1, nth_2, toInt_int, toStr_str, hs, c1, c2, iff_true', hk, bd, e32, tf, iff_false', Option.bind_some, selB_true, toBool_bool, thenN_n, w1, Bool.true_or, if_true, tnI]
  | false =>
  rw [k32] at e32
  cases k10 : (l.getD i 0 == 10) with
  | true =>
    rw [k10] at e10
    refine Evt.all fun n => ?_
    simp only [L45_1, nth_0, nth_1, nth_2, toInt_int, toStr_str, hs, c1, c2, iff_true', hk, bd, e32, e10, beq_self_eq_true, selB_true, selB_false, Option.bind_some, toBool_bool, thenN_n, w1, Bool.false_or, if_true, tnI]
  | false =>
  rw [k10] at e10
  cases k40 : (l.getD i 0 == 40) with
  | true =>
    rw [k40] at e40
    rw [e40] at n40
    have hb : l.getD i 0 = 40 := beq_iff_eq.1 k40
    rw [hb] at one
    refine (parenI (i : Int)).1.mp fun n q => ?_
    simp only [L45_1, nth_0, nth_1, nth_2, nth_3, toInt_int, toStr_str, toList_list, hs, c1, c2, iff_true', iff_false', hk, hk1, bd, e32, e10, n40, Bool.not_true, ft, beq_self_eq_true, selB_true, selB_false, Option.bind_some, toBool_bool, thenN_n, w1, c3, c4, one, q, lo, passB_same, Bool.false_or, Bool.false_eq_true, if_false, if_true, tnI]
  | false =>
  rw [k40] at e40
  rw [e40] at n40
  cases k41 : (l.getD i 0 == 41) with
  | true =>
    rw [k41] at e41
    rw [e41] at n41
    have hb : l.getD i 0 = 41 := beq_iff_eq.1 k41
    rw [hb] at one
    refine (parenI (i : Int)).2.mp fun n q => ?_
    simp only [L45_1, nth_0, nth_1, nth_2, nth_3, toInt_int, toStr_str, toList_list, hs, c1, c2, iff_true', iff_false', hk, hk1, bd, e32, e10, n40, n41, Bool.not_true, Bool.not_false, ft, beq_self_eq_true, selB_true, selB_false, Option.bind_some, toBool_bool, thenN_n, w1, c3, c4, one, q, lo, passB_same, Bool.false_or, Bool.false_eq_true, if_false, if_true, tnI]
  | false =>
  rw [k41] at e41
  rw [e41] at n41
  have hsep : sep (l.getD i 0) = false := by unfold sep; rw [k32, k10, k40, k41]; rfl
  have hst := wLen_step l hi hsep
  have hle := wLen_le l i (by omega)
  have hsc := scanI hl (i := i + 1) (by omega) (.int i) (.list out)
  rw [show i + 1 + wLen l (i + 1) = i + wLen l i by omega] at hsc
  obtain ⟨u1, u2⟩ := wAt_ne hi hsep
  have hwl := wAt_len l i
  have ht := tokI (t := wAt l i) (by omega) u1 u2 (i : Int)
  have hx : (sB l).extract i (i + wLen l i) = sB (wAt l i) := by
    rw [ext_sB, show i + wLen l i - i = wLen l i by omega]
    rfl
  have hke : (((i + wLen l i : Nat) : Int)).toNat = i + wLen l i := by omega
  have c5 : leI (i : Int) ((i + wLen l i : Nat) : Int) = true := leT (by omega)
  have c6 : leI ((i + wLen l i : Nat) : Int) l.length = true := leT (by omega)
  cases hn : numOf (wAt l i) with
  | some v =>
    rw [hn] at ht
    refine hsc.mp2 ht fun n q1 q2 => ?_
    simp only [L45_1, nth_0, nth_1, nth_2, nth_3, toInt_int, toStr_str, toList_list, hs, c1, c2, iff_true', iff_false', hk, hke, bd, e32, e10, n40, n41, Bool.not_true, Bool.not_false, beq_self_eq_true, selB_true, selB_false, Option.bind_some, toBool_bool, thenN_n, thenE_some, w1, q1, c5, c6, hx, q2, lo, passB_same, Bool.false_or, Bool.false_eq_true, if_false, tnI]
  | none =>
    rw [hn] at ht
    cases hy : symB (wAt l i) with
    | true =>
      rw [hy] at ht
      refine hsc.mp2 ht fun n q1 q2 => ?_
      simp only [L45_1, nth_0, nth_1, nth_2, nth_3, toInt_int, toStr_str, toList_list, hs, c1, c2, iff_true', iff_false', hk, hke, bd, e32, e10, n40, n41, Bool.not_true, Bool.not_false, beq_self_eq_true, selB_true, selB_false, Option.bind_some, toBool_bool, thenN_n, thenE_some, w1, q1, c5, c6, hx, q2, lo, passB_same, Bool.false_or, Bool.false_eq_true, if_false, if_true, tnI]
    | false =>
      rw [hy] at ht
      refine hsc.mp2 ht fun n q1 q2 => ?_
      simp only [L45_1, nth_0, nth_1, nth_2, nth_3, toInt_int, toStr_str, toList_list, hs, c1, c2, iff_true', iff_false', hk, hke, bd, e32, e10, n40, n41, Bool.not_true, Bool.not_false, beq_self_eq_true, selB_true, selB_false, Option.bind_some, toBool_bool, thenN_n, thenE_some, w1, q1, c5, c6, hx, q2, passB_same, Bool.false_or, Bool.false_eq_true, if_false, tnI]
      rfl
theorem stepS (hl : l.length ≤ 4000) (hi : i < l.length) (ho : out.length ≤ 4000) : Evt fun n => L43_1 (ev Tryd.prog sg n) n [.str (sB l), .list [], .int i, .list out] = some (tnS l i out (nextT l i)) := by
  have hs : (sB l).size = l.length := size_sB _
  obtain ⟨e32, e10, e40, e41⟩ := eqs (l.getD i 0)
  have hk : ((i : Int)).toNat = i := by omega
  have c1 : ltI (i : Int) l.length = true := ltT (by omega)
  have c2 : geI (i : Int) 0 = true := geT (by omega)
  have w1 : IntKind.i64.wrap ((i : Int) + 1) = ((i + 1 : Nat) : Int) := by rw [wrap64 (by omega) (by omega)]; omega
  have lo : ∀ t : PV, leN (out.length + [t].length) 3518437208883 = true := fun t => leNT (by simp; omega)
  unfold nextT
  cases k32 : (l.getD i 0 == 32) with
  | true =>
    rw [k32] at e32
    refine Evt.all fun n => ?_
    simp only [L43_1, nth_0, nth_1, nth_2, nth_3, nth_4, nth_5, toInt_int, toStr_str, hs, c1, c2, iff_true', hk, bd, e32, toBool_bool, thenN_n, w1, Bool.true_or, if_true, tnS]
  | false =>
  rw [k32] at e32
  cases k10 : (l.getD i 0 == 10) with
  | true =>
    rw [k10] at e10
    refine Evt.all fun n => ?_
    simp only [L43_1, nth_0, nth_1, nth_2, nth_3, nth_4, nth_5, toInt_int, toStr_str, hs, c1, c2, iff_true', iff_false', hk, bd, e32, e10, toBool_bool, thenN_n, w1, Bool.false_or, if_true, tnS]
  | false =>
  rw [k10] at e10
  cases k40 : (l.getD i 0 == 40) with
  | true =>
    rw [k40] at e40
    refine Evt.all fun n => ?_
    simp only [L43_1, nth_0, nth_1, nth_2, nth_3, nth_4, nth_5, toInt_int, toStr_str, toList_list, hs, c1, c2, iff_true', iff_false', hk, bd, e32, e10, e40, toBool_bool, thenN_n, w1, lo, otO, Bool.false_or, Bool.false_eq_true, if_false, if_true, tnS]
  | false =>
  rw [k40] at e40
  cases k41 : (l.getD i 0 == 41) with
  | true =>
    rw [k41] at e41
    refine Evt.all fun n => ?_
    simp only [L43_1, nth_0, nth_1, nth_2, nth_3, nth_4, nth_5, toInt_int, toStr_str, toList_list, hs, c1, c2, iff_true', iff_false', hk, bd, e32, e10, e40, e41, toBool_bool, thenN_n, w1, lo, otC, Bool.false_or, Bool.false_eq_true, if_false, if_true, tnS]
  | false =>
  rw [k41] at e41
  have hle := wLen_le l i (by omega)
  have hsc := scanS hl (i := i) (by omega) (.list out) (.list []) (.int i)
  have hwl := wAt_len l i
  obtain ⟨x, hx1, hw⟩ := wordS (t := wAt l i) (by omega)
  have hy0 := symS (l := wAt l i) (by omega)
  have hx : (sB l).extract i (i + wLen l i) = sB (wAt l i) := by
    rw [ext_sB, show i + wLen l i - i = wLen l i by omega]
    rfl
  have hke : (((i + wLen l i : Nat) : Int)).toNat = i + wLen l i := by omega
  have c5 : leI (i : Int) ((i + wLen l i : Nat) : Int) = true := leT (by omega)
  have c6 : leI ((i + wLen l i : Nat) : Int) l.length = true := leT (by omega)
  cases hn : numOf (wAt l i) with
  | some v =>
    have hv := hx1 v hn
    subst hv
    rw [hn] at hw
    refine hsc.mp2 hw fun n q1 q2 => ?_
    simp only [L43_1, nth_0, nth_1, nth_2, nth_3, nth_4, nth_5, toInt_int, toStr_str, toList_list, hs, c1, c2, iff_true', iff_false', hk, hke, bd, e32, e10, e40, e41, toBool_bool, thenN_n, thenE_some, q1, c5, c6, hx, q2, Option.isSome_some, Option.bind_some, lo, passB_same, Bool.false_or, Bool.false_eq_true, if_false, tnS]
  | none =>
    rw [hn] at hw
    cases hy : symB (wAt l i) with
    | true =>
      rw [hy] at hy0
      refine hsc.mp3 hw hy0 fun n q1 q2 q3 => ?_
      simp only [L43_1, nth_0, nth_1, nth_2, nth_3, nth_4, nth_5, toInt_int, toStr_str, toList_list, hs, c1, c2, iff_true', iff_false', hk, hke, bd, e32, e10, e40, e41, toBool_bool, thenN_n, thenE_some, q1, c5, c6, hx, q2, q3, Option.isSome_none, Option.bind_some, lo, passB_same, Bool.false_or, Bool.false_eq_true, if_false, if_true, tnS]
    | false =>
      rw [hy] at hy0
      refine hsc.mp3 hw hy0 fun n q1 q2 q3 => ?_
      simp only [L43_1, nth_0, nth_1, nth_2, nth_3, nth_4, nth_5, toInt_int, toStr_str, toList_list, hs, c1, c2, iff_true', iff_false', hk, hke, bd, e32, e10, e40, e41, toBool_bool, thenN_n, thenE_some, q1, c5, c6, hx, q2, q3, Option.isSome_none, Option.bind_some, passB_same, Bool.false_or, Bool.false_eq_true, if_false, tnS]
      rfl
end
/-- all tokens, or where none begins -/
def toks (l : List UInt8) : Nat → Nat → List PV → Sum (List PV) Nat
  | 0, _, out => .inl out
  | d + 1, i, out => if i < l.length then match nextT l i with
      | .skip => toks l d (i + 1) out
      | .tok t to => toks l d to (out ++ [t])
      | .bad => .inr i
    else .inl out
theorem next_to {l : List UInt8} {i : Nat} (hi : i < l.length) {t : PV} {to : Nat} (h : nextT l i = .tok t to) : i < to ∧ to ≤ l.length := by
  unfold nextT at h
  split at h
  · cases h
  · rename_i k1
    split at h
    · cases h; omega
    · rename_i k2
      split at h
      · cases h; omega
      · rename_i k3
        have hsep : sep (l.getD i 0) = false := by
          unfold sep
          simp only [Bool.not_eq_true] at k1 k2 k3
          rw [k1, k2, k3]
          rfl
        have h1 := wLen_step l hi hsep
        have h2 := wLen_le l i (by omega)
        split at h
        · cases h; omega
        · split at h
          · cases h; omega
          · cases h
theorem loopI {l : List UInt8} (hl : l.length ≤ 4000) : ∀ (d i : Nat) (out : List PV), l.length ≤ i + d → i ≤ l.length → out.length ≤ i →
    Evt fun n => ∀ m, d + 1 ≤ m → loopEv (L45_1 (ev Tryd.prog sg n) n) m [.int i, .str (sB l), .list out] = some (match toks l d i out with | .inl o => (.x 0, [.list o]) | .inr a => (.r, [.list [], .int a])) := by
  have hs : (sB l).size = l.length := size_sB _
  have stop : ∀ (out : List PV) (n : Nat), L45_1 (ev Tryd.prog sg n) n [.int l.length, .str (sB l), .list out] = some (.x 0, [.list out]) := fun out n => by
    have c1 : ltI (l.length : Int) l.length = false := ltF (by omega)
    simp only [L45_1, nth_0, nth_1, nth_2, toInt_int, toStr_str, hs, c1, iff_false']
  intro d
  induction d with
  | zero =>
    intro i out h1 h2 h3
    have e : i = l.length := by omega
    subst e
    refine Evt.all fun n m hm => ?_
    obtain ⟨m, rfl⟩ : ∃ m', m = m' + 1 := ⟨m - 1, by omega⟩
    simp only [loopEv, stop, thenN_x, passE_eq, toks]
  | succ d ih =>
    intro i out h1 h2 h3
    by_cases hlt : i < l.length
    · have hst := stepI hl hlt (out := out) (by omega)
      simp only [toks, if_pos hlt]
      cases hn : nextT l i with
      | skip =>
        rw [hn] at hst
        refine hst.mp2 (ih (i + 1) out (by omega) (by omega) (by omega)) fun n q1 q2 m hm => ?_
        obtain ⟨m, rfl⟩ : ∃ m', m = m' + 1 := ⟨m - 1, by omega⟩
        simp only [tnI] at q1
        simp only [loopEv, q1, thenN_n]
        exact q2 m (by omega)
      | tok t to =>
        rw [hn] at hst
        obtain ⟨t1, t2⟩ := next_to hlt hn
        refine hst.mp2 (ih to (out ++ [t]) (by omega) t2 (by simp; omega)) fun n q1 q2 m hm => ?_
        obtain ⟨m, rfl⟩ : ∃ m', m = m' + 1 := ⟨m - 1, by omega⟩
        simp only [tnI] at q1
        simp only [loopEv, q1, thenN_n]
        exact q2 m (by omega)
      | bad =>
        rw [hn] at hst
        refine hst.mp fun n q1 m hm => ?_
        obtain ⟨m, rfl⟩ : ∃ m', m = m' + 1 := ⟨m - 1, by omega⟩
        simp only [tnI] at q1
        simp only [loopEv, q1]
        rfl
    · have e : i = l.length := by omega
      subst e
      refine Evt.all fun n m hm => ?_
      obtain ⟨m, rfl⟩ : ∃ m', m = m' + 1 := ⟨m - 1, by omega⟩
      simp only [loopEv, stop, thenN_x, passE_eq, toks, if_neg hlt]
theorem loopS {l : List UInt8} (hl : l.length ≤ 4000) : ∀ (d i : Nat) (out : List PV), l.length ≤ i + d → i ≤ l.length → out.length ≤ i →
    Evt fun n => ∀ m, d + 1 ≤ m → loopEv (L43_1 (ev Tryd.prog sg n) n) m [.str (sB l), .list [], .int i, .list out] = some (match toks l d i out with | .inl o => (.x 0, [.list o]) | .inr a => (.r, [.list [], .int a])) := by
  have hs : (sB l).size = l.length := size_sB _
  have stop : ∀ (out : List PV) (n : Nat), L43_1 (ev Tryd.prog sg n) n [.str (sB l), .list [], .int l.length, .list out] = some (.x 0, [.list out]) := fun out n => by
    have c1 : ltI (l.length : Int) l.length = false := ltF (by omega)
    simp only [L43_1, nth_0, nth_1, nth_2, nth_3, toInt_int, toStr_str, hs, c1, iff_false']
  intro d
  induction d with
  | zero =>
    intro i out h1 h2 h3
    have e : i = l.length := by omega
    subst e
    refine Evt.all fun n m hm => ?_
    obtain ⟨m, rfl⟩ : ∃ m', m = m' + 1 := ⟨m - 1, by omega⟩
    simp only [loopEv, stop, thenN_x, passE_eq, toks]
  | succ d ih =>
    intro i out h1 h2 h3
    by_cases hlt : i < l.length
    · have hst := stepS hl hlt (out := out) (by omega)
      simp only [toks, if_pos hlt]
      cases hn : nextT l i with
      | skip =>
        rw [hn] at hst
        refine hst.mp2 (ih (i + 1) out (by omega) (by omega) (by omega)) fun n q1 q2 m hm => ?_
        obtain ⟨m, rfl⟩ : ∃ m', m = m' + 1 := ⟨m - 1, by omega⟩
        simp only [tnS] at q1
        simp only [loopEv, q1, thenN_n]
        exact q2 m (by omega)
      | tok t to =>
        rw [hn] at hst
        obtain ⟨t1, t2⟩ := next_to hlt hn
        refine hst.mp2 (ih to (out ++ [t]) (by omega) t2 (by simp; omega)) fun n q1 q2 m hm => ?_
        obtain ⟨m, rfl⟩ : ∃ m', m = m' + 1 := ⟨m - 1, by omega⟩
        simp only [tnS] at q1
        simp only [loopEv, q1, thenN_n]
        exact q2 m (by omega)
      | bad =>
        rw [hn] at hst
        refine hst.mp fun n q1 m hm => ?_
        obtain ⟨m, rfl⟩ : ∃ m', m = m' + 1 := ⟨m - 1, by omega⟩
        simp only [tnS] at q1
        simp only [loopEv, q1]
        rfl
    · have e : i = l.length := by omega
      subst e
      refine Evt.all fun n m hm => ?_
      obtain ⟨m, rfl⟩ : ∃ m', m = m' + 1 := ⟨m - 1, by omega⟩
      simp only [loopEv, stop, thenN_x, passE_eq, toks, if_neg hlt]
/-- the tokens of a text -/
def tokL (l : List UInt8) : Sum (List PV) Nat := if l.length ≤ 4000 then toks l l.length 0 [] else .inr 0
def tokO : Sum (List PV) Nat → List PV
  | .inl o => [.list o, .int (-1)]
  | .inr a => [.list [], .int a]
theorem tokensI (l : List UInt8) : Rn 45 [.str (sB l)] (tokO (tokL l)) := by
  have hs : (sB l).size = l.length := size_sB _
  unfold tokL
  by_cases h : l.length ≤ 4000
  · rw [if_pos h]
    have c0 : gtI (l.length : Int) 4000 = false := gtF (by omega)
    refine Is.of e45 ((loopI h l.length 0 [] (by omega) (by omega) (by simp)).mp2 (Evt.ge (l.length + 1)) fun n q1 q2 => ?_)
    have q1' : loopEv (L45_1 (ev Tryd.prog sg n) n) n [.int 0, .str (sB l), .list []] = _ := q1 n q2
    cases hk : toks l l.length 0 [] with
    | inl o =>
      rw [hk] at q1'
      simp only [F45, nth_0, toStr_str, hs, c0, iff_false', q1', thenE_some, passB_same, thenN_n, tokO]
    | inr a =>
      rw [hk] at q1'
      simp only [F45, nth_0, toStr_str, hs, c0, iff_false', q1', thenE_some, tokO]
      rfl
  · rw [if_neg h]
    have c0 : gtI (l.length : Int) 4000 = true := gtT (by omega)
    exact Is.of e45 (Evt.all fun n => by simp only [F45, nth_0, toStr_str, hs, c0, iff_true']; rfl)
theorem tokensS (l : List UInt8) : Rn 43 [.str (sB l)] (tokO (tokL l)) := by
  have hs : (sB l).size = l.length := size_sB _
  unfold tokL
  by_cases h : l.length ≤ 4000
  · rw [if_pos h]
    have c0 : gtI (l.length : Int) 4000 = false := gtF (by omega)
    refine Is.of e43 ((loopS h l.length 0 [] (by omega) (by omega) (by simp)).mp2 (Evt.ge (l.length + 1)) fun n q1 q2 => ?_)
    have q1' : loopEv (L43_1 (ev Tryd.prog sg n) n) n [.str (sB l), .list [], .int 0, .list []] = _ := q1 n q2
    cases hk : toks l l.length 0 [] with
    | inl o =>
      rw [hk] at q1'
      simp only [F43, nth_0, toStr_str, hs, c0, iff_false', q1', thenE_some, passB_same, thenN_n, tokO]
    | inr a =>
      rw [hk] at q1'
      simp only [F43, nth_0, toStr_str, hs, c0, iff_false', q1', thenE_some, tokO]
      rfl
  · rw [if_neg h]
    have c0 : gtI (l.length : Int) 4000 = true := gtT (by omega)
    exact Is.of e43 (Evt.all fun n => by simp only [F43, nth_0, toStr_str, hs, c0, iff_true']; rfl)
end Go.Proofs.YthmhgnnaihkjaaaDoor.GFnExactRenamed
