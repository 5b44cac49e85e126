/- What functions of the program and of the reference come to, for the law FnExactFunText. Each under the conditions that it names. -/
import Derived.Test.YthmhgnnaihkjaaaDoorAFnExactFunText
namespace Go.Proofs.YthmhgnnaihkjaaaDoor.GFnExactFunText
open Go Go.Rsc Go.Proofs.YthmhgnnaihkjaaaDoor
set_option maxRecDepth 100000
set_option linter.unusedVariables false
set_option linter.unusedSimpArgs false
def okW (x : Int) : Bool := decide (-1073741824 ≤ x ∧ x ≤ 1073741823)
def okR (x a b : Int) : Bool := decide (a ≤ x ∧ x ≤ b)
theorem is54 (x y z : Int) : Rn 55 [.int x, .int y, .int z] [.bool (okR x y z)] := by
  refine Is.of e55 (Evt.all fun n => ?_)
  by_cases h : x ≥ y <;> simp [F55, geI, leI, h, okR]
theorem is51 (x y z : Int) : Rn 51 [.int x, .int y, .int z] [.bool (okR x y z)] := by
  refine Is.of e51 (Evt.all fun n => ?_)
  by_cases h : x ≥ y <;> simp [F51, geI, leI, h, okR]
/-! ### Numbers, written out -/
def dgB (n : Int) : PV := .str (sB (Lib.itoa n))
theorem digI {n : Int} (h0 : -9223372036854775808 ≤ n) (h1 : n < 9223372036854775808) : Rn 27 [.int n] [dgB n] := by
  have ho : Rn 54 [.int n] [dgB n] := orc_is (s := itoaSig) rfl rfl (by
    show (if (decide (-9223372036854775808 ≤ n) && decide (n ≤ 9223372036854775807)) = true then some [dgB n] else none) = some [dgB n]
    rw [if_pos]
    simp only [Bool.and_eq_true, decide_eq_true_eq]
    omega)
  exact Is.of e27 (ho.mp fun n h => by simp [F27, h])
/-- what is left, and what is written, behind j rounds -/
def dinv (s : Int) (u : Nat) (b : Bool) (j : Nat) : List PV := [.int (s * ((u / 10 ^ j : Nat) : Int)), .bool b, .str (sB (dgs u j))]
theorem wrap8 {x : Int} (h0 : 0 ≤ x) (h1 : x < 256) : IntKind.u8.wrap x = x := by
  unfold IntKind.wrap
  simp only [IntKind.bits, IntKind.signed]
  first
    | omega
    | (simp; omega)
theorem b2s_one {v : Nat} (h : v < 10) : b2sL [.int (IntKind.u8.wrap (IntKind.i64.wrap (48 + (v : Int))))] = sB [UInt8.ofNat (48 + v)] := by
  rw [wrap64 (by omega) (by omega), wrap8 (by omega) (by omega)]
  unfold b2sL sB
  have : ((48 : Int) + v).toNat = 48 + v := by omega
  simp [PV.toInt, this]
theorem digLoop {s : Int} {u : Nat} {b : Bool} (hs : s = 1 ∨ s = -1) (hu : u < 9223372036854775809) (h1 : s = 1 → u < 9223372036854775808) :
    Evt fun n => loopEv (L24_0 (ev Tryd.prog sg n) n) n [.int (s * (u : Int)), .bool b, .str (sB [])] = some (.x 0, [.bool b, .str (sB (if u = 0 then [] else Lib.decDigits u))]) := by
  have e0 : ([.int (s * (u : Int)), .bool b, .str (sB [])] : List PV) = dinv s u b 0 := by simp [dinv, dgs]
  rw [e0]
  by_cases hz : u = 0
  · subst hz
    refine loop_run (dinv s 0 b) 0 (fun i hi => by omega) (Evt.all fun n => ?_) (by decide)
    simp [L24_0, dinv, neF, dgs]
  · rw [if_neg hz, ← dgs_all]
    have hk := nDigits_le (u := u) (by omega)
    refine loop_run (dinv s u b) (Lib.nDigits u) (fun j hj => Evt.all fun n => ?_) (Evt.all fun n => ?_) (by decide)
    · have hp := pow_nDigits u (by omega)
      have hp2 : 10 ^ j ≤ 10 ^ (Lib.nDigits u - 1) := Nat.pow_le_pow_right (by decide) (by omega)
      have hq : 1 ≤ u / 10 ^ j := (Nat.one_le_div_iff (Nat.pow_pos (by decide))).2 (by omega)
      have hdg : Lib.dg u j = UInt8.ofNat (48 + u / 10 ^ j % 10) := rfl
      have hnext : u / 10 ^ (j + 1) = u / 10 ^ j / 10 := by rw [Nat.pow_succ, Nat.div_div_eq_div_mul]
      have hle : u / 10 ^ j ≤ u := Nat.div_le_self _ _
      have hsz : (dgs u j).length = j := dgs_length u j
      simp only [dinv, dgs_succ, hnext, hdg]
      generalize u / 10 ^ j = v at *
      have hr := b2s_one (v := v % 10) (Nat.mod_lt _ (by decide))
      rcases hs with rfl | rfl
      · have a1 : arith .rem .i64 (v : Int) 10 = ((v % 10 : Nat) : Int) := arith_rem v 10
        have a2 : arith .quo .i64 (v : Int) 10 = ((v / 10 : Nat) : Int) := arith_quo v 10 (by have := h1 rfl; omega)
        have c1 : ltI ((v % 10 : Nat) : Int) 0 = false := ltF (by omega)
        have c2 : neI (v : Int) 0 = true := neT (by omega)
        have c3 : leI ((sB ([UInt8.ofNat (48 + v % 10)] ++ dgs u j)).size : Int) 9223372036854775807 = true := leT (by simp [hsz]; omega)
        simp only [L24_0, Int.one_mul, nth_0, nth_1, nth_2, nth_3, toInt_int, toStr_str, a1, a2, c1, c2, iff_true', iff_false', thenN_n, hr, catB_sB, c3, neT (x := 10) (y := 0) (by decide)]
        rfl
      · have a1 : arith .rem .i64 (-1 * (v : Int)) 10 = -((v % 10 : Nat) : Int) := by
          show (-1 * (v : Int)).tmod 10 = _
          rw [Int.neg_one_mul, Int.neg_tmod, Int.tmod_eq_emod_of_nonneg (by omega)]; rfl
        have a2 : arith .quo .i64 (-1 * (v : Int)) 10 = -1 * ((v / 10 : Nat) : Int) := by
          show IntKind.i64.wrap ((-1 * (v : Int)).tdiv 10) = _
          rw [Int.neg_one_mul, Int.neg_tdiv, Int.tdiv_eq_ediv_of_nonneg (by omega), wrap64 (by omega) (by omega), Int.neg_one_mul]; rfl
        have c2 : neI (-1 * (v : Int)) 0 = true := neT (by omega)
        have c3 : leI ((sB ([UInt8.ofNat (48 + v % 10)] ++ dgs u j)).size : Int) 9223372036854775807 = true := leT (by simp [hsz]; omega)
        have a3 : IntKind.i64.wrap (0 - -((v % 10 : Nat) : Int)) = ((v % 10 : Nat) : Int) := by rw [wrap64 (by omega) (by omega)]; omega
        by_cases hv : v % 10 = 0
        · have c1 : ltI ((v % 10 : Nat) : Int) 0 = false := ltF (by omega)
          have a4 : -((v % 10 : Nat) : Int) = ((v % 10 : Nat) : Int) := by omega
          simp only [L24_0, nth_0, nth_1, nth_2, nth_3, toInt_int, toStr_str, a1, a2, c1, c2, iff_true', iff_false', thenN_n, a4, hr, catB_sB, c3, neT (x := 10) (y := 0) (by decide)]
          rfl
        · have c1 : ltI (-((v % 10 : Nat) : Int)) 0 = true := ltT (by omega)
          simp only [L24_0, nth_0, nth_1, nth_2, nth_3, toInt_int, toStr_str, a1, a2, a3, c1, c2, iff_true', iff_false', thenN_n, hr, catB_sB, c3, neT (x := 10) (y := 0) (by decide)]
          rfl
    · have hl := Lib.lt_pow_nDigits u
      have : u / 10 ^ Lib.nDigits u = 0 := Nat.div_eq_of_lt hl
      simp [L24_0, dinv, this, neF]
theorem digS {n : Int} (h0 : -9223372036854775808 ≤ n) (h1 : n < 9223372036854775808) : Rn 24 [.int n] [dgB n] := by
  by_cases hz : n = 0
  · subst hz
    have e : dgB 0 = .str ⟨#[48]⟩ := by simp [dgB, Lib.itoa, Lib.decDigits_one, sB]
    exact Is.of e24 (Evt.all fun n => by simp [F24, eqT, e])
  · have c1 : eqI n 0 = false := eqF hz
    by_cases hn : n < 0
    · have hl := digLoop (s := -1) (u := n.natAbs) (b := true) (.inr rfl) (by omega) (fun h => by cases h)
      rw [show -1 * (n.natAbs : Int) = n by omega, if_neg (by omega : ¬ n.natAbs = 0)] at hl
      refine Is.of e24 (hl.mp fun k h => ?_)
      have c2 : ltI n 0 = true := ltT hn
      have e : dgB n = .str (sB ([45] ++ Lib.decDigits n.natAbs)) := by simp [dgB, Lib.itoa, hn]
      have e1 : (⟨#[]⟩ : ByteArray) = sB [] := rfl
      have e2 : (⟨#[45]⟩ : ByteArray) = sB [45] := rfl
      have e3 : leI ((sB ([45] ++ Lib.decDigits n.natAbs)).size : Int) 9223372036854775807 = true := leT (by
        have := nDigits_le (u := n.natAbs) (by omega)
        simp [Lib.decDigits_length]; omega)
      simp only [F24, nth_0, nth_1, toInt_int, c1, iff_false', c2, e1, h, thenE_some, passB_same, thenN_n, toBool_bool, iff_true', e2, toStr_str, catB_sB, e3, e]
    · have hl := digLoop (s := 1) (u := n.toNat) (b := false) (.inl rfl) (by omega) (fun h => by omega)
      rw [show 1 * (n.toNat : Int) = n by omega, if_neg (by omega : ¬ n.toNat = 0)] at hl
      refine Is.of e24 (hl.mp fun k h => ?_)
      have c2 : ltI n 0 = false := ltF (by omega)
      have e : dgB n = .str (sB (Lib.decDigits n.toNat)) := by simp [dgB, Lib.itoa, hn]
      have e1 : (⟨#[]⟩ : ByteArray) = sB [] := rfl
      simp only [F24, nth_0, nth_1, toInt_int, c1, iff_false', c2, e1, h, thenE_some, passB_same, thenN_n, toBool_bool, e]
end Go.Proofs.YthmhgnnaihkjaaaDoor.GFnExactFunText
