/- What functions of the program and of the reference come to, for the law FnExactRenamed. Each under the conditions that it names. -/
import Derived.Test.YthmhgnnaihkjaaaDoorAFnExactRenamed
namespace Go.Proofs.YthmhgnnaihkjaaaDoor.GFnExactRenamed
open Go Go.Rsc Go.Proofs.YthmhgnnaihkjaaaDoor
set_option maxRecDepth 100000
set_option linter.unusedVariables false
set_option linter.unusedSimpArgs false
def okW (x : Int) : Bool := decide (-1073741824 ≤ x ∧ x ≤ 1073741823)
def okR (x a b : Int) : Bool := decide (a ≤ x ∧ x ≤ b)
theorem is54 (x y z : Int) : Rn 55 [.int x, .int y, .int z] [.bool (okR x y z)] := by
  refine Is.of e55 (Evt.all fun n => ?_)
  by_cases h : x ≥ y <;> simp [F55, geI, leI, h, okR]
theorem is51 (x y z : Int) : Rn 51 [.int x, .int y, .int z] [.bool (okR x y z)] := by
  refine Is.of e51 (Evt.all fun n => ?_)
  by_cases h : x ≥ y <;> simp [F51, geI, leI, h, okR]
theorem is102 (x : Int) : Rn 83 [.int x] [.bool (okW x)] :=
  Is.of e83 ((is54 x (-1073741824) 1073741823).mp fun n h => by simp only [okR] at h; simp [F83, h, okW])
theorem is101 (x : Int) : Rn 81 [.int x] [.bool (okW x)] :=
  Is.of e81 ((is51 x (-1073741824) 1073741823).mp fun n h => by simp only [okR] at h; simp [F81, h, okW])
theorem okR_in {x a b : Int} (h : okR x a b = true) : a ≤ x ∧ x ≤ b := by simpa [okR] using h
/-! ### Numbers, written out -/
def dgB (n : Int) : PV := .str (sB (Lib.itoa n))
theorem digI {n : Int} (h0 : -9223372036854775808 ≤ n) (h1 : n < 9223372036854775808) : Rn 27 [.int n] [dgB n] := by
  have ho : Rn 54 [.int n] [dgB n] := orc_is (s := itoaSig) rfl rfl (by
    show (if (decide (-9223372036854775808 ≤ n) && decide (n ≤ 9223372036854775807)) = true then some [dgB n] else none) = some [dgB n]
    rw [if_pos]
    simp only [Bool.and_eq_true, decide_eq_true_eq]
    omega)
  exact Is.of e27 (ho.mp fun n h => by simp [F27, h])
/-- what is left, and what is written, behind j rounds -/
def dinv (s : Int) (u : Nat) (b : Bool) (j : Nat) : List PV := [.int (s * ((u / 10 ^ j : Nat) : Int)), .bool b, .str (sB (dgs u j))]
theorem wrap8 {x : Int} (h0 : 0 ≤ x) (h1 : x < 256) : IntKind.u8.wrap x = x := by
  unfold IntKind.wrap
  simp only [IntKind.bits, IntKind.signed]
  first
    | omega
    | (simp; omega)
theorem b2s_one {v : Nat} (h : v < 10) : b2sL [.int (IntKind.u8.wrap (IntKind.i64.wrap (48 + (v : Int))))] = sB [UInt8.ofNat (48 + v)] := by
  rw [wrap64 (by omega) (by omega), wrap8 (by omega) (by omega)]
  unfold b2sL sB
  have : ((48 : Int) + v).toNat = 48 + v := by omega
  simp [PV.toInt, this]
theorem digLoop {s : Int} {u : Nat} {b : Bool} (hs : s = 1 ∨ s = -1) (hu : u < 9223372036854775809) (h1 : s = 1 → u < 9223372036854775808) :
    Evt fun n => loopEv (L24_0 (ev Tryd.prog sg n) n) n [.int (s * (u : Int)), .bool b, .str (sB [])] = some (.x 0, [.bool b, .str (sB (if u = 0 then [] else Lib.decDigits u))]) := by
  have e0 : ([.int (s * (u : Int)), .bool b, .str (sB [])] : List PV) = dinv s u b 0 := by simp [dinv, dgs]
  rw [e0]
  by_cases hz : u = 0
  · subst hz
    refine loop_run (dinv s 0 b) 0 (fun i hi => by omega) (Evt.all fun n => ?_) (by decide)
    simp [L24_0, dinv, neF, dgs]
  · rw [if_neg hz, ← dgs_all]
    have hk := nDigits_le (u := u) (by omega)
    refine loop_run (dinv s u b) (Lib.nDigits u) (fun j hj => Evt.all fun n => ?_) (Evt.all fun n => ?_) (by decide)
    · have hp := pow_nDigits u (by omega)
      have hp2 : 10 ^ j ≤ 10 ^ (Lib.nDigits u - 1) := Nat.pow_le_pow_right (by decide) (by omega)
      have hq : 1 ≤ u / 10 ^ j := (Nat.one_le_div_iff (Nat.pow_pos (by decide))).2 (by omega)
      have hdg : Lib.dg u j = UInt8.ofNat (48 + u / 10 ^ j % 10) := rfl
      have hnext : u / 10 ^ (j + 1) = u / 10 ^ j / 10 := by rw [Nat.pow_succ, Nat.div_div_eq_div_mul]
      have hle : u / 10 ^ j ≤ u := Nat.div_le_self _ _
      have hsz : (dgs u j).length = j := dgs_length u j
      simp only [dinv, dgs_succ, hnext, hdg]
      generalize u / 10 ^ j = v at *
      have hr := b2s_one (v := v % 10) (Nat.mod_lt _ (by decide))
      rcases hs with rfl | rfl
      · have a1 : arith .rem .i64 (v : Int) 10 = ((v % 10 : Nat) : Int) := arith_rem v 10
        have a2 : arith .quo .i64 (v : Int) 10 = ((v / 10 : Nat) : Int) := arith_quo v 10 (by have := h1 rfl; omega)
        have c1 : ltI ((v % 10 : Nat) : Int) 0 = false := ltF (by omega)
        have c2 : neI (v : Int) 0 = true := neT (by omega)
        have c3 : leI ((sB ([UInt8.ofNat (48 + v % 10)] ++ dgs u j)).size : Int) 9223372036854775807 = true := leT (by simp [hsz]; omega)
        simp only [L24_0, Int.one_mul, nth_0, nth_1, nth_2, nth_3, toInt_int, toStr_str, a1, a2, c1, c2, iff_true', iff_false', thenN_n, hr, catB_sB, c3, neT (x := 10) (y := 0) (by decide)]
        rfl
      · have a1 : arith .rem .i64 (-1 * (v : Int)) 10 = -((v % 10 : Nat) : Int) := by
          show (-1 * (v : Int)).tmod 10 = _
          rw [Int.neg_one_mul, Int.neg_tmod, Int.tmod_eq_emod_of_nonneg (by omega)]; rfl
        have a2 : arith .quo .i64 (-1 * (v : Int)) 10 = -1 * ((v / 10 : Nat) : Int) := by
          show IntKind.i64.wrap ((-1 * (v : Int)).tdiv 10) = _
          rw [Int.neg_one_mul, Int.neg_tdiv, Int.tdiv_eq_ediv_of_nonneg (by omega), wrap64 (by omega) (by omega), Int.neg_one_mul]; rfl
        have c2 : neI (-1 * (v : Int)) 0 = true := neT (by omega)
        have c3 : leI ((sB ([UInt8.ofNat (48 + v % 10)] ++ dgs u j)).size : Int) 9223372036854775807 = true := leT (by simp [hsz]; omega)
        have a3 : IntKind.i64.wrap (0 - -((v % 10 : Nat) : Int)) = ((v % 10 : Nat) : Int) := by rw [wrap64 (by omega) (by omega)]; omega
        by_cases hv : v % 10 = 0
        · have c1 : ltI ((v % 10 : Nat) : Int) 0 = false := ltF (by omega)
          have a4 : -((v % 10 : Nat) : Int) = ((v % 10 : Nat) : Int) := by omega
          simp only [L24_0, nth_0, nth_1, nth_2, nth_3, toInt_int, toStr_str, a1, a2, c1, c2, iff_true', iff_false', thenN_n, a4, hr, catB_sB, c3, neT (x := 10) (y := 0) (by decide)]
          rfl
        · have c1 : ltI (-((v % 10 : Nat) : Int)) 0 = true := ltT (by omega)
          simp only [L24_0, nth_0, nth_1, nth_2, nth_3, toInt_int, toStr_str, a1, a2, a3, c1, c2, iff_true', iff_false', thenN_n, hr, catB_sB, c3, neT (x := 10) (y := 0) (by decide)]
          rfl
    · have hl := Lib.lt_pow_nDigits u
      have : u / 10 ^ Lib.nDigits u = 0 := Nat.div_eq_of_lt hl
      simp [L24_0, dinv, this, neF]
theorem digS {n : Int} (h0 : -9223372036854775808 ≤ n) (h1 : n < 9223372036854775808) : Rn 24 [.int n] [dgB n] := by
  by_cases hz : n = 0
  · subst hz
    have e : dgB 0 = .str ⟨#[48]⟩ := by simp [dgB, Lib.itoa, Lib.decDigits_one, sB]
    exact Is.of e24 (Evt.all fun n => by simp [F24, eqT, e])
  · have c1 : eqI n 0 = false := eqF hz
    by_cases hn : n < 0
    · have hl := digLoop (s := -1) (u := n.natAbs) (b := true) (.inr rfl) (by omega) (fun h => by cases h)
      rw [show -1 * (n.natAbs : Int) = n by omega, if_neg (by omega : ¬ n.natAbs = 0)] at hl
      refine Is.of e24 (hl.mp fun k h => ?_)
      have c2 : ltI n 0 = true := ltT hn
      have e : dgB n = .str (sB ([45] ++ Lib.decDigits n.natAbs)) := by simp [dgB, Lib.itoa, hn]
      have e1 : (⟨#[]⟩ : ByteArray) = sB [] := rfl
      have e2 : (⟨#[45]⟩ : ByteArray) = sB [45] := rfl
      have e3 : leI ((sB ([45] ++ Lib.decDigits n.natAbs)).size : Int) 9223372036854775807 = true := leT (by
        have := nDigits_le (u := n.natAbs) (by omega)
        simp [Lib.decDigits_length]; omega)
      simp only [F24, nth_0, nth_1, toInt_int, c1, iff_false', c2, e1, h, thenE_some, passB_same, thenN_n, toBool_bool, iff_true', e2, toStr_str, catB_sB, e3, e]
    · have hl := digLoop (s := 1) (u := n.toNat) (b := false) (.inl rfl) (by omega) (fun h => by omega)
      rw [show 1 * (n.toNat : Int) = n by omega, if_neg (by omega : ¬ n.toNat = 0)] at hl
      refine Is.of e24 (hl.mp fun k h => ?_)
      have c2 : ltI n 0 = false := ltF (by omega)
      have e : dgB n = .str (sB (Lib.decDigits n.toNat)) := by simp [dgB, Lib.itoa, hn]
      have e1 : (⟨#[]⟩ : ByteArray) = sB [] := rfl
      simp only [F24, nth_0, nth_1, toInt_int, c1, iff_false', c2, e1, h, thenE_some, passB_same, thenN_n, toBool_bool, e]
/-! ### Bytes of strings -/
theorem ot32 : (⟨#[32]⟩ : ByteArray) = sB [32] := rfl
theorem ot0 : (⟨#[]⟩ : ByteArray) = sB [] := rfl
theorem bd (l : List UInt8) (i : Nat) : (sB l).data.getD i 0 = l.getD i 0 := by
  by_cases h : i < l.length
  · simp [sB, Array.getD, List.getD_eq_getElem?_getD, h]
  · simp [sB, Array.getD, List.getD_eq_getElem?_getD, h]
theorem bd2 (l : List UInt8) (i : Nat) : (sB l).data[i]?.getD 0 = l.getD i 0 := by simp [sB, List.getD_eq_getElem?_getD]
theorem isB_unit (b : Bool) : PV.isB .unit b = false := rfl
theorem ext_sB (l : List UInt8) (a b : Nat) : (sB l).extract a b = sB ((l.drop a).take (b - a)) := by
  apply ByteArray.ext
  rw [ByteArray.data_extract]
  apply Array.ext'
  simp [sB, List.extract_eq_take_drop]
def bt (l : List UInt8) (i : Nat) : Int := ((l.getD i 0).toNat : Int)
theorem bt_rng (l : List UInt8) (i : Nat) : 0 ≤ bt l i ∧ bt l i < 256 := by
  have := (l.getD i 0).toNat_lt
  unfold bt
  omega
def dig (b : UInt8) : Bool := decide (48 ≤ b.toNat ∧ b.toNat ≤ 57)
def sgnL : List UInt8 := [43, 45, 42, 60, 61, 63, 46, 95]
def low (b : UInt8) : Bool := decide (97 ≤ b.toNat ∧ b.toNat ≤ 122)
def okc (b : UInt8) : Bool := low b || dig b || sgnL.contains b
def symB (l : List UInt8) : Bool := (decide (1 ≤ l.length ∧ l.length ≤ 12) && !dig (l.getD 0 0)) && (!(l.getD 0 0 == 45 && (decide (1 < l.length) && dig (l.getD 1 0))) && l.all okc)
theorem index_neg : ∀ (l : List UInt8) (c : UInt8), ltI (Lib.indexByte l c) 0 = !l.contains c
  | [], c => rfl
  | b :: l, c => by
    have h1 := index_neg l c
    have h2 := Lib.indexByte_ge l c
    simp only [Lib.indexByte, List.contains_cons]
    by_cases e : b == c
    · have e2 : (c == b) = true := by simp at e ⊢; exact e.symm
      rw [if_pos e, e2, Bool.true_or]
      rfl
    · have e2 : (c == b) = false := by simp at e ⊢; exact fun h => e h.symm
      rw [if_neg e, e2, Bool.false_or, ← h1]
      by_cases h3 : Lib.indexByte l c = -1
      · rw [if_pos (by rw [h3]; rfl), h3]
      · rw [if_neg (by simpa using h3), ltF (by omega), ltF (by omega)]
theorem range_l (f : UInt8 → Bool) (l : List UInt8) : ((List.range l.length).all fun i => f (l.getD i 0)) = l.all f := by
  rw [Bool.eq_iff_iff, List.all_eq_true, List.all_eq_true]
  constructor
  · intro h x hx
    obtain ⟨i, hi, rfl⟩ := List.getElem_of_mem hx
    have := h i (by simpa using hi)
    simpa [List.getD_eq_getElem?_getD, hi] using this
  · intro h i hi
    have hi : i < l.length := by simpa using hi
    exact h _ (by simp [List.getD_eq_getElem?_getD, hi])
/-! ### Whole numbers and their digits -/
theorem dg_nat (u j : Nat) : (Lib.dg u j).toNat = 48 + u / 10 ^ j % 10 := by
  show (UInt8.ofNat (48 + u / 10 ^ j % 10)).toNat = _
  have := Nat.mod_lt (u / 10 ^ j) (show 0 < 10 by decide)
  rw [UInt8.toNat_ofNat']
  omega
theorem parse_dgs {u : Nat} (hu : u ≤ 1000000000000) : ∀ j, Lib.parseUint10 (u / 10 ^ j) (dgs u j) = .ok u
  | 0 => by simp [dgs, Lib.parseUint10]
  | j + 1 => by
    have e : u / 10 ^ (j + 1) = u / 10 ^ j / 10 := by rw [Nat.pow_succ, Nat.div_div_eq_div_mul]
    have hle : u / 10 ^ j ≤ u := Nat.div_le_self _ _
    have ih := parse_dgs hu j
    rw [dgs_succ, e]
    simp only [Lib.parseUint10, dg_nat]
    generalize u / 10 ^ j = v at *
    rw [if_pos (by omega), if_neg (by omega), if_neg (by omega), show v / 10 * 10 + (48 + v % 10 - 48) = v by omega]
    exact ih
theorem parse_dec {u : Nat} (hu : u ≤ 1000000000000) : Lib.parseUint10 0 (Lib.decDigits u) = .ok u := by
  have h := parse_dgs hu (Lib.nDigits u)
  rw [dgs_all, Nat.div_eq_of_lt (Lib.lt_pow_nDigits u)] at h
  exact h
theorem dec_cons (u : Nat) : ∃ c r, Lib.decDigits u = c :: r ∧ dig c = true := by
  have hp := Lib.nDigits_pos u
  obtain ⟨k, hk⟩ : ∃ k, Lib.nDigits u = k + 1 := ⟨Lib.nDigits u - 1, by omega⟩
  refine ⟨Lib.dg u k, dgs u k, by rw [← dgs_all, hk, dgs_succ], ?_⟩
  have := Nat.mod_lt (u / 10 ^ k) (show 0 < 10 by decide)
  simp only [dig, dg_nat, decide_eq_true_eq]
  omega
theorem dec_dig (u : Nat) : (Lib.decDigits u).all dig = true := by
  rw [← dgs_all]
  simp only [dgs, List.all_map, List.all_eq_true]
  intro t _
  have := Nat.mod_lt (u / 10 ^ (Lib.nDigits u - 1 - t)) (show 0 < 10 by decide)
  simp only [Function.comp, dig, dg_nat, decide_eq_true_eq]
  omega
theorem itoa_pos {n : Int} (h : 0 ≤ n) : Lib.itoa n = Lib.decDigits n.toNat := by simp [Lib.itoa, show ¬ n < 0 by omega]
theorem itoa_neg {n : Int} (h : n < 0) : Lib.itoa n = 45 :: Lib.decDigits n.natAbs := by simp [Lib.itoa, h]
theorem atoi_itoa {n : Int} (h1 : -1000000000000 ≤ n) (h2 : n ≤ 1000000000000) : Lib.atoiAll (Lib.itoa n) = .ok n := by
  by_cases hn : n < 0
  · rw [itoa_neg hn]
    obtain ⟨c, r, e, _⟩ := dec_cons n.natAbs
    have hp := parse_dec (u := n.natAbs) (by omega)
    have hm : Lib.parseMag (Lib.decDigits n.natAbs) = .ok n.natAbs := by
      unfold Lib.parseMag
      rw [if_neg (by rw [e]; simp), hp]
    simp only [Lib.atoiAll]
    have e45 : (45 : UInt8).toNat = 45 := rfl
    simp only [e45, or_true, if_true, hm, not_true, false_and, if_false, true_and]
    rw [if_neg (by omega)]
    congr 1
    omega
  · rw [itoa_pos (by omega)]
    obtain ⟨c, r, e, hd⟩ := dec_cons n.toNat
    have hp := parse_dec (u := n.toNat) (by omega)
    have hm : Lib.parseMag (Lib.decDigits n.toNat) = .ok n.toNat := by
      unfold Lib.parseMag
      rw [if_neg (by rw [e]; simp), hp]
    simp only [dig, decide_eq_true_eq] at hd
    rw [e] at hm ⊢
    simp only [Lib.atoiAll]
    rw [if_neg (by omega), hm]
    simp only [show ¬ c.toNat = 45 by omega, not_false_eq_true, true_and, false_and, if_false]
    rw [if_neg (by omega)]
    congr 1
    omega
/-- The word that a text spells. -/
def numOf (t : List UInt8) : Option Int := match Lib.atoiAll t with
  | .ok v => if Lib.itoa v = t ∧ okW v = true then some v else none
  | _ => none
theorem okW_in {n : Int} (h : okW n = true) : -1073741824 ≤ n ∧ n ≤ 1073741823 := by simpa [okW] using h
theorem numOf_iff {t : List UInt8} {n : Int} : numOf t = some n ↔ Lib.itoa n = t ∧ okW n = true := by
  unfold numOf
  constructor
  · intro h
    split at h
    · split at h
      · rename_i hc
        cases h
        exact hc
      · cases h
    · cases h
  · rintro ⟨rfl, h⟩
    have := okW_in h
    rw [atoi_itoa (by omega) (by omega)]
    simp [h]
theorem itoa_inj {n m : Int} (h1 : -1000000000000 ≤ n ∧ n ≤ 1000000000000) (h2 : -1000000000000 ≤ m ∧ m ≤ 1000000000000) (e : Lib.itoa n = Lib.itoa m) : n = m := by
  have a := atoi_itoa h1.1 h1.2
  rw [e, atoi_itoa h2.1 h2.2] at a
  cases a
  rfl
end Go.Proofs.YthmhgnnaihkjaaaDoor.GFnExactRenamed
