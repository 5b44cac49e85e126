/- What functions of the program and of the reference come to, for the law FnExactFunsOf. Each under the conditions that it names. -/
import Derived.Test.YtfnhimhmhinjdaaBFnExactFunsOf
namespace Go.Proofs.Ytfnhimhmhinjdaa.GFnExactFunsOf
open Go Go.Rsc Go.Proofs.Ytfnhimhmhinjdaa
set_option maxRecDepth 100000
set_option linter.unusedVariables false
set_option linter.unusedSimpArgs false
/-! ### Numbers out of bytes -/
def Bytes (l : List PV) : Prop := ∀ q, q ∈ l → ∃ x : Nat, q = .int x ∧ x < 256
def badT : List PV := [.int 0, .int 0, .bool false]
def byteAt (l : List PV) (i : Nat) : Nat := (nth l i).toInt.toNat
theorem byteAt_eq {l : List PV} (hb : Bytes l) {i : Nat} (h : i < l.length) : nth l i = .int (byteAt l i) ∧ byteAt l i < 256 := by
  obtain ⟨x, e, hx⟩ := hb _ (nth_mem h)
  unfold byteAt
  rw [e]
  simp [hx]
/-- What is read from the k-th byte on, with n so far; e where the bytes end. -/
def getG (e : Ex × List PV) (l : List PV) (at_ : Nat) : Nat → Nat → Nat → Ex × List PV
  | 0, _, _ => (.x 0, [])
  | j + 1, k, n => if l.length ≤ at_ + k then e else
    if 127 < byteAt l (at_ + k) then getG e l at_ j (k + 1) (n + byteAt l (at_ + k) % 128 * 2 ^ (7 * k))
    else if (byteAt l (at_ + k) = 0 ∧ 0 < k) ∨ 2147483647 < n + byteAt l (at_ + k) % 128 * 2 ^ (7 * k) then (.r, badT)
    else (.r, [.int ((n + byteAt l (at_ + k) % 128 * 2 ^ (7 * k) : Nat) : Int), .int ((at_ + k + 1 : Nat) : Int), .bool true])
def finG (r : Ex × List PV) : List PV := match r.1 with
  | .r => r.2
  | _ => badT
def getO (l : List PV) (at_ : Nat) : Nat → Nat → Nat → Option (Nat × Nat)
  | 0, _, _ => none
  | j + 1, k, n => if l.length ≤ at_ + k then none else
    if 127 < byteAt l (at_ + k) then getO l at_ j (k + 1) (n + byteAt l (at_ + k) % 128 * 2 ^ (7 * k))
    else if (byteAt l (at_ + k) = 0 ∧ 0 < k) ∨ 2147483647 < n + byteAt l (at_ + k) % 128 * 2 ^ (7 * k) then none
    else some (n + byteAt l (at_ + k) % 128 * 2 ^ (7 * k), at_ + k + 1)
def outO : Option (Nat × Nat) → List PV
  | none => badT
  | some (n, a) => [.int n, .int a, .bool true]
theorem finG_eq {e : Ex × List PV} (he : finG e = badT) (l : List PV) (at_ : Nat) : ∀ j k n, finG (getG e l at_ j k n) = outO (getO l at_ j k n)
  | 0, k, n => rfl
  | j + 1, k, n => by
    simp only [getG, getO]
    split
    · exact he
    · split
      · exact finG_eq he l at_ j _ _
      · split <;> rfl
theorem getG_ex {e : Ex × List PV} (he : e.1 = .r ∨ e = (.x 0, [])) (l : List PV) (at_ : Nat) : ∀ j k n, (getG e l at_ j k n).1 = .r ∨ getG e l at_ j k n = (.x 0, [])
  | 0, k, n => .inr rfl
  | j + 1, k, n => by
    simp only [getG]
    split
    · exact he
    · split
      · exact getG_ex he l at_ j _ _
      · split <;> exact .inl rfl
theorem getO_spec {l : List PV} {at_ : Nat} : ∀ {j k n m a : Nat}, getO l at_ j k n = some (m, a) → at_ < a ∧ a ≤ l.length ∧ m ≤ 2147483647
  | 0, k, n, m, a, h => by cases h
  | j + 1, k, n, m, a, h => by
    simp only [getO] at h
    split at h
    · cases h
    · split at h
      · exact getO_spec h
      · split at h
        · cases h
        · simp only [Option.some.injEq, Prod.mk.injEq] at h
          obtain ⟨rfl, rfl⟩ := h
          omega
theorem arith_shl (x j : Nat) (h : x * 2 ^ j < 9223372036854775808) (hj : j ≤ 64) (m : Int) (hm : m = (j : Int)) : arith .shl .i64 (x : Int) m = ((x * 2 ^ j : Nat) : Int) := by
  subst hm
  show IntKind.i64.wrap ((x : Int) * 2 ^ (min ((j : Int).toNat) 64)) = _
  rw [Int.toNat_natCast, Nat.min_eq_left hj]
  have e : (x : Int) * 2 ^ j = ((x * 2 ^ j : Nat) : Int) := by push_cast; rfl
  rw [e]
  generalize x * 2 ^ j = y at h
  exact wrap64 (by omega) (by omega)
theorem arith_or (n y j : Nat) (hn : n < 2 ^ j) (h : n + y * 2 ^ j < 9223372036854775808) : arith .or .i64 (n : Int) ((y * 2 ^ j : Nat) : Int) = ((n + y * 2 ^ j : Nat) : Int) := by
  have e1 : (BitVec.ofInt 64 (n : Int)).toNat = n := by
    rw [BitVec.toNat_ofInt]; generalize y * 2 ^ j = z at h; omega
  have e2 : (BitVec.ofInt 64 ((y * 2 ^ j : Nat) : Int)).toNat = y * 2 ^ j := by
    rw [BitVec.toNat_ofInt]; generalize y * 2 ^ j = z at h; omega
  show IntKind.i64.wrap ((BitVec.ofInt 64 (n : Int) ||| BitVec.ofInt 64 ((y * 2 ^ j : Nat) : Int)).toNat : Int) = _
  rw [BitVec.toNat_or, e1, e2]
  have e3 : n ||| y * 2 ^ j = n + y * 2 ^ j := by
    rw [Nat.or_comm, Nat.mul_comm, ← Nat.two_pow_add_eq_or_of_lt hn, Nat.add_comm]
  rw [e3]
  generalize n + y * 2 ^ j = z at h
  exact wrap64 (by omega) (by omega)
theorem pow7 {k : Nat} (hk : k ≤ 4) : 2 ^ (7 * k) ≤ 268435456 := by
  have : 2 ^ (7 * k) ≤ 2 ^ 28 := Nat.pow_le_pow_right (by decide) (by omega)
  simpa using this
theorem pow7s (k : Nat) : 2 ^ (7 * (k + 1)) = 128 * 2 ^ (7 * k) := by
  rw [Nat.mul_succ, Nat.pow_add]; omega
theorem part_lt {n d k : Nat} (hn : n < 2 ^ (7 * k)) : n + d % 128 * 2 ^ (7 * k) < 2 ^ (7 * (k + 1)) := by
  rw [pow7s]
  have h1 : d % 128 ≤ 127 := by omega
  have h2 : d % 128 * 2 ^ (7 * k) ≤ 127 * 2 ^ (7 * k) := Nat.mul_le_mul_right _ h1
  omega
theorem get85 {l : List PV} (hb : Bytes l) (hl : l.length ≤ 1048576) {at_ : Nat} (ha : at_ ≤ l.length) : ∀ (j k n : Nat), j + k = 5 → n < 2 ^ (7 * k) →
    Evt fun N => ∀ m, j + 1 ≤ m → loopEv (L85_0 (ev Try.prog sg N) N) m [.int n, .int k, .list l, .int at_] = some (getG (.r, badT) l at_ j k n)
  | 0, k, n, hk, hn => Evt.all fun N m hm => by
    obtain ⟨m, rfl⟩ : ∃ m', m = m' + 1 := ⟨m - 1, by omega⟩
    have e : k = 5 := by omega
    subst e
    have hB : L85_0 (ev Try.prog sg N) N [.int n, .int (5 : Nat), .list l, .int at_] = some (.x 0, []) := by simp (disch := omega) [L85_0, ltF]
    simp only [loopEv, hB, thenN_x, passE_eq, getG]
  | j + 1, k, n, hk, hn => by
    have hk4 : k ≤ 4 := by omega
    by_cases hend : l.length ≤ at_ + k
    · refine Evt.all fun N m hm => ?_
      obtain ⟨m, rfl⟩ : ∃ m', m = m' + 1 := ⟨m - 1, by omega⟩
      have hB : L85_0 (ev Try.prog sg N) N [.int n, .int k, .list l, .int at_] = some (.r, badT) := by simp (disch := omega) [L85_0, ltT, ltF, geT, wrap64, badT]
      simp only [loopEv, hB, thenN_r, passE_eq, getG, if_pos hend]
    · obtain ⟨hd, hd2⟩ := byteAt_eq hb (i := at_ + k) (by omega)
      have hp := pow7 hk4
      have hlt := part_lt (d := byteAt l (at_ + k)) hn
      have hx : byteAt l (at_ + k) % 128 * 2 ^ (7 * k) ≤ 34359738368 := by
        have h1 : byteAt l (at_ + k) % 128 ≤ 127 := by omega
        have := Nat.mul_le_mul h1 hp
        omega
      have e1 : arith .shl .i64 ((byteAt l (at_ + k) % 128 : Nat) : Int) (7 * (k : Int)) = ((byteAt l (at_ + k) % 128 * 2 ^ (7 * k) : Nat) : Int) := arith_shl _ _ (by omega) (by omega) _ (by push_cast; rfl)
      have e2 := arith_or n (byteAt l (at_ + k) % 128) (7 * k) hn (by omega)
      have e0 : arith .rem .i64 (byteAt l (at_ + k) : Int) 128 = ((byteAt l (at_ + k) % 128 : Nat) : Int) := rem128 _
      have hi : ((at_ : Int) + (k : Int)).toNat = at_ + k := by omega
      by_cases hc : 127 < byteAt l (at_ + k)
      · refine (get85 hb hl ha j (k + 1) _ (by omega) hlt).mp fun N hN m hm => ?_
        obtain ⟨m, rfl⟩ : ∃ m', m = m' + 1 := ⟨m - 1, by omega⟩
        have hB : L85_0 (ev Try.prog sg N) N [.int n, .int k, .list l, .int at_] = some (.n, [.int ((n + byteAt l (at_ + k) % 128 * 2 ^ (7 * k) : Nat) : Int), .int ((k + 1 : Nat) : Int), .list l, .int at_]) := by
          simp (disch := omega) only [L85_0, nth_0, nth_1, nth_2, nth_3, toInt_int, toList_list, toBool_bool, ltT, ltF, geT, geF, neT, wrap64, iff_true', iff_false', selB_true, selB_false, hi, hd, e0, e1, e2, beqT, beqF, Bool.not_false, Bool.not_true, beq_self_eq_true]
          simp
        simp only [loopEv, hB, thenN_n]
        rw [hN m (by omega)]
        simp only [getG, if_neg hend, if_pos hc]
      · refine Evt.all fun N m hm => ?_
        obtain ⟨m, rfl⟩ : ∃ m', m = m' + 1 := ⟨m - 1, by omega⟩
        have hB : L85_0 (ev Try.prog sg N) N [.int n, .int k, .list l, .int at_] = some (getG (.r, badT) l at_ (j + 1) k n) := by
          simp only [getG, if_neg hend, if_neg hc]
          by_cases hz : byteAt l (at_ + k) = 0 ∧ 0 < k
          · rw [if_pos (.inl hz)]
            simp (disch := omega) only [L85_0, nth_0, nth_1, nth_2, nth_3, toInt_int, toList_list, toBool_bool, ltT, ltF, geT, geF, gtT, eqT, neT, wrap64, iff_true', iff_false', selB_true, selB_false, hi, hd, e0, e1, e2, beqT, beqF, Bool.not_false, Bool.not_true, beq_self_eq_true]
            rfl
          · have hz' : selB (gtI (k : Int) 0) (selB (gtI (k : Int) 0) (.bool (eqI (selB (gtI (k : Int) 0) (.int (byteAt l (at_ + k) : Int)) .unit).toInt 0)) .unit) (.bool false) = .bool false := by
              by_cases h0 : 0 < k
              · have : byteAt l (at_ + k) ≠ 0 := fun h => hz ⟨h, h0⟩
                simp (disch := omega) [gtT, eqF]
              · simp (disch := omega) [gtF]
            by_cases hbig : 2147483647 < n + byteAt l (at_ + k) % 128 * 2 ^ (7 * k)
            · rw [if_pos (.inr hbig)]
              simp (disch := omega) only [L85_0, nth_0, nth_1, nth_2, nth_3, toInt_int, toList_list, toBool_bool, ltT, ltF, geT, geF, gtT, neT, wrap64, iff_true', iff_false', selB_true, selB_false, hi, hd, e0, e1, e2, hz', beqT, beqF, Bool.not_false, Bool.not_true, beq_self_eq_true, isB_bool]
              rfl
            · rw [if_neg (by omega)]
              simp (disch := omega) only [L85_0, nth_0, nth_1, nth_2, nth_3, toInt_int, toList_list, toBool_bool, ltT, ltF, geT, geF, gtF, neT, wrap64, iff_true', iff_false', selB_true, selB_false, hi, hd, e0, e1, e2, hz', beqT, beqF, Bool.not_false, Bool.not_true, beq_self_eq_true, isB_bool]
              simp
        simp only [loopEv, hB]
        have h0 : ∀ r : Ex × List PV, (r.1 = .r ∨ r = (.x 0, [])) → thenN (some r) (loopEv (L85_0 (ev Try.prog sg N) N) m) passE = some r := by
          rintro ⟨e, ps⟩ h
          rcases h with h | h
          · simp only at h; subst h; rfl
          · cases h; rfl
        exact h0 _ (getG_ex (.inl rfl) l at_ _ _ _)

theorem get86 {l : List PV} (hb : Bytes l) (hl : l.length ≤ 1048576) {at_ : Nat} (ha : at_ ≤ l.length) : ∀ (j k n : Nat), j + k = 5 → n < 2 ^ (7 * k) →
    Evt fun N => ∀ m, j + 1 ≤ m → loopEv (L86_0 (ev Try.prog sg N) N) m [.int n, .list l, .int at_, .int k] = some (getG (.x 0, []) l at_ j k n)
  | 0, k, n, hk, hn => Evt.all fun N m hm => by
    obtain ⟨m, rfl⟩ : ∃ m', m = m' + 1 := ⟨m - 1, by omega⟩
    have e : k = 5 := by omega
    subst e
    have hB : L86_0 (ev Try.prog sg N) N [.int n, .list l, .int at_, .int (5 : Nat)] = some (.x 0, []) := by simp (disch := omega) [L86_0, ltF]
    simp only [loopEv, hB, thenN_x, passE_eq, getG]
  | j + 1, k, n, hk, hn => by
    have hk4 : k ≤ 4 := by omega
    by_cases hend : l.length ≤ at_ + k
    · refine Evt.all fun N m hm => ?_
      obtain ⟨m, rfl⟩ : ∃ m', m = m' + 1 := ⟨m - 1, by omega⟩
      have hB : L86_0 (ev Try.prog sg N) N [.int n, .list l, .int at_, .int k] = some (.x 0, []) := by simp (disch := omega) [L86_0, ltT, ltF, geT, wrap64, badT]
      simp only [loopEv, hB, thenN_x, passE_eq, getG, if_pos hend]
    · obtain ⟨hd, hd2⟩ := byteAt_eq hb (i := at_ + k) (by omega)
      have hp := pow7 hk4
      have hlt := part_lt (d := byteAt l (at_ + k)) hn
      have hx : byteAt l (at_ + k) % 128 * 2 ^ (7 * k) ≤ 34359738368 := by
        have h1 : byteAt l (at_ + k) % 128 ≤ 127 := by omega
        have := Nat.mul_le_mul h1 hp
        omega
      have e1 : arith .shl .i64 ((byteAt l (at_ + k) % 128 : Nat) : Int) (7 * (k : Int)) = ((byteAt l (at_ + k) % 128 * 2 ^ (7 * k) : Nat) : Int) := arith_shl _ _ (by omega) (by omega) _ (by push_cast; rfl)
      have e2 : IntKind.i64.wrap ((n : Int) + ((byteAt l (at_ + k) % 128 * 2 ^ (7 * k) : Nat) : Int)) = ((n + byteAt l (at_ + k) % 128 * 2 ^ (7 * k) : Nat) : Int) := by
        generalize byteAt l (at_ + k) % 128 * 2 ^ (7 * k) = z at hx
        rw [wrap64 (by omega) (by omega)]; push_cast; rfl
      have e0 : arith .and .i64 (byteAt l (at_ + k) : Int) 127 = ((byteAt l (at_ + k) % 128 : Nat) : Int) := and127 (by omega)
      have hi : ((at_ : Int) + (k : Int)).toNat = at_ + k := by omega
      by_cases hc : 127 < byteAt l (at_ + k)
      · refine (get86 hb hl ha j (k + 1) _ (by omega) hlt).mp fun N hN m hm => ?_
        obtain ⟨m, rfl⟩ : ∃ m', m = m' + 1 := ⟨m - 1, by omega⟩
        have hB : L86_0 (ev Try.prog sg N) N [.int n, .list l, .int at_, .int k] = some (.n, [.int ((n + byteAt l (at_ + k) % 128 * 2 ^ (7 * k) : Nat) : Int), .list l, .int at_, .int ((k + 1 : Nat) : Int)]) := by
          simp (disch := omega) only [L86_0, nth_0, nth_1, nth_2, nth_3, toInt_int, toList_list, toBool_bool, ltT, ltF, geT, geF, gtT, neT, wrap64, iff_true', iff_false', selB_true, selB_false, hi, hd, e0, e1, e2, beqT, beqF, Bool.not_false, Bool.not_true, beq_self_eq_true, thenN_n]
          simp
        simp only [loopEv, hB, thenN_n]
        rw [hN m (by omega)]
        simp only [getG, if_neg hend, if_pos hc]
      · refine Evt.all fun N m hm => ?_
        obtain ⟨m, rfl⟩ : ∃ m', m = m' + 1 := ⟨m - 1, by omega⟩
        have hB : L86_0 (ev Try.prog sg N) N [.int n, .list l, .int at_, .int k] = some (getG (.x 0, []) l at_ (j + 1) k n) := by
          simp only [getG, if_neg hend, if_neg hc]
          by_cases hz : byteAt l (at_ + k) = 0 ∧ 0 < k
          · rw [if_pos (.inl hz)]
            have e3 : eqI (byteAt l (at_ + k) : Int) 0 = true := eqT (by omega)
            simp (disch := omega) only [L86_0, nth_0, nth_1, nth_2, nth_3, toInt_int, toList_list, toBool_bool, ltT, ltF, geT, geF, gtT, gtF, e3, neT, wrap64, iff_true', iff_false', selB_true, selB_false, hi, hd, e0, e1, e2, beqT, beqF, Bool.not_false, Bool.not_true, beq_self_eq_true, thenN_r]
            rfl
          · have hz' : selB (eqI (byteAt l (at_ + k) : Int) 0) (selB (eqI (byteAt l (at_ + k) : Int) 0) (.bool (gtI (selB (eqI (byteAt l (at_ + k) : Int) 0) (.int (k : Int)) .unit).toInt 0)) .unit) (.bool false) = .bool false := by
              by_cases h0 : byteAt l (at_ + k) = 0
              · have : k = 0 := by omega
                simp (disch := omega) [eqT, gtF]
              · simp (disch := omega) [eqF]
            by_cases hbig : 2147483647 < n + byteAt l (at_ + k) % 128 * 2 ^ (7 * k)
            · rw [if_pos (.inr hbig)]
              simp (disch := omega) only [L86_0, nth_0, nth_1, nth_2, nth_3, toInt_int, toList_list, toBool_bool, ltT, ltF, geT, geF, gtT, gtF, neT, wrap64, iff_true', iff_false', selB_true, selB_false, hi, hd, e0, e1, e2, hz', beqT, beqF, Bool.not_false, Bool.not_true, beq_self_eq_true, isB_bool, thenN_r]
              rfl
            · rw [if_neg (by omega)]
              simp (disch := omega) only [L86_0, nth_0, nth_1, nth_2, nth_3, toInt_int, toList_list, toBool_bool, ltT, ltF, geT, geF, gtF, neT, wrap64, iff_true', iff_false', selB_true, selB_false, hi, hd, e0, e1, e2, hz', beqT, beqF, Bool.not_false, Bool.not_true, beq_self_eq_true, isB_bool, thenN_r]
              simp
        simp only [loopEv, hB]
        have h0 : ∀ r : Ex × List PV, (r.1 = .r ∨ r = (.x 0, [])) → thenN (some r) (loopEv (L86_0 (ev Try.prog sg N) N) m) passE = some r := by
          rintro ⟨e, ps⟩ h
          rcases h with h | h
          · simp only at h; subst h; rfl
          · cases h; rfl
        exact h0 _ (getG_ex (.inr rfl) l at_ _ _ _)
/-- A number from a place on. -/
def getN (l : List PV) (at_ : Nat) : Option (Nat × Nat) := getO l at_ 5 0 0
theorem outO_get (o : Option (Nat × Nat)) : ∃ a b c, outO o = [a, b, c] := by cases o <;> exact ⟨_, _, _, rfl⟩
theorem getSpec {l : List PV} (hb : Bytes l) (hl : l.length ≤ 1048576) {at_ : Nat} (ha : at_ ≤ l.length) : Rn 85 [.list l, .int at_] (outO (getN l at_)) := by
  refine Is.of e85 (((get85 hb hl ha 5 0 0 rfl (by decide)).and (Evt.ge 6)).mp fun n h => ?_)
  have h1 := h.1 n h.2
  simp only [show ((0 : Nat) : Int) = 0 from rfl] at h1
  have h2 := getG_ex (e := (.r, badT)) (.inl rfl) l at_ 5 0 0
  have h3 := finG_eq (e := (.r, badT)) rfl l at_ 5 0 0
  revert h1 h2 h3
  generalize getG (.r, badT) l at_ 5 0 0 = r
  intro h1 h2 h3
  have h3 : finG r = outO (getN l at_) := h3
  rw [← h3]
  obtain ⟨x, y, z, hx⟩ := outO_get (getN l at_)
  rcases h2 with h2 | h2
  · obtain ⟨e, ps⟩ := r
    simp only at h2
    subst h2
    have h4 : ps = [x, y, z] := by rw [← hx, ← h3]; rfl
    subst h4
    simp [F85, h1, finG]
  · subst h2
    simp [F85, h1, finG, badT]
theorem getImpl {l : List PV} (hb : Bytes l) (hl : l.length ≤ 1048576) {at_ : Nat} (ha : at_ ≤ l.length) : Rn 86 [.list l, .int at_] (outO (getN l at_)) := by
  by_cases hr : at_ < l.length
  · have hw : okR at_ 0 (IntKind.i64.wrap (l.length - 1)) = true := by rw [wrap_len l hl]; simp [okR]; omega
    refine Is.of e86 ((is54 at_ 0 (IntKind.i64.wrap (l.length - 1))).mp2 ((get86 hb hl ha 5 0 0 rfl (by decide)).and (Evt.ge 6)) fun n h0 h => ?_)
    have h1 := h.1 n h.2
    simp only [show ((0 : Nat) : Int) = 0 from rfl] at h1
    have h2 := getG_ex (e := (.x 0, [])) (.inr rfl) l at_ 5 0 0
    have h3 := finG_eq (e := (.x 0, [])) rfl l at_ 5 0 0
    revert h1 h2 h3
    generalize getG (.x 0, []) l at_ 5 0 0 = r
    intro h1 h2 h3
    have h3 : finG r = outO (getN l at_) := h3
    rw [← h3]
    obtain ⟨x, y, z, hx⟩ := outO_get (getN l at_)
    rcases h2 with h2 | h2
    · obtain ⟨e, ps⟩ := r
      simp only at h2
      subst h2
      have h4 : ps = [x, y, z] := by rw [← hx, ← h3]; rfl
      subst h4
      simp [F86, h0, hw, h1, finG]
    · subst h2
      simp [F86, h0, hw, h1, finG, badT]
  · have hw : okR at_ 0 (IntKind.i64.wrap (l.length - 1)) = false := by rw [wrap_len l hl]; simp [okR]; omega
    have hn : getN l at_ = none := by unfold getN getO; rw [if_pos (by omega)]
    rw [hn]
    exact Is.of e86 ((is54 at_ 0 (IntKind.i64.wrap (l.length - 1))).mp fun n h0 => by simp [F86, h0, hw, outO, badT])
end Go.Proofs.Ytfnhimhmhinjdaa.GFnExactFunsOf
