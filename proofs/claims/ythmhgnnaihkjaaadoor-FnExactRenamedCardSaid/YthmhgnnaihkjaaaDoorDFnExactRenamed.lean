/- What functions of the program and of the reference come to, for the law FnExactRenamed. Each under the conditions that it names. -/
import Derived.Test.YthmhgnnaihkjaaaDoorCFnExactRenamed
namespace Go.Proofs.YthmhgnnaihkjaaaDoor.GFnExactRenamed
open Go Go.Rsc Go.Proofs.YthmhgnnaihkjaaaDoor
set_option maxRecDepth 100000
set_option linter.unusedVariables false
set_option linter.unusedSimpArgs false
/-! ### Texts of numbers -/
theorem tw_all {α : Type} {p : α → Bool} : ∀ {l : List α} {x : α}, x ∈ l.takeWhile p → p x = true
  | a :: l, x, h => by
    by_cases hc : p a = true
    · rw [List.takeWhile_cons_of_pos hc] at h
      rcases List.mem_cons.1 h with rfl | h
      · exact hc
      · exact tw_all h
    · rw [List.takeWhile_cons_of_neg hc] at h
      cases h
theorem tw_self {α : Type} {p : α → Bool} : ∀ {l : List α}, (∀ x ∈ l, p x = true) → l.takeWhile p = l
  | [], _ => rfl
  | a :: l, h => by
    rw [List.takeWhile_cons_of_pos (h a (by simp)), tw_self fun x hx => h x (by simp [hx])]
def mins (t : List UInt8) : Bool := decide (0 < t.length) && (t.getD 0 0 == 45)
def tl (t : List UInt8) : List UInt8 := if mins t then t.drop 1 else t
def val (l : List UInt8) : Int := l.foldl (fun a c => 10 * a + ((c.toNat : Int) - 48)) 0
theorem val_snoc (l : List UInt8) (c : UInt8) : val (l ++ [c]) = 10 * val l + ((c.toNat : Int) - 48) := by simp [val]
theorem fold_dgs (u : Nat) : ∀ j, (dgs u j).foldl (fun (a : Int) c => 10 * a + ((c.toNat : Int) - 48)) ((u / 10 ^ j : Nat) : Int) = u
  | 0 => by simp [dgs]
  | j + 1 => by
    have e : u / 10 ^ (j + 1) = u / 10 ^ j / 10 := by rw [Nat.pow_succ, Nat.div_div_eq_div_mul]
    have ih := fold_dgs u j
    rw [dgs_succ, e, List.foldl_cons, dg_nat]
    generalize u / 10 ^ j = v at *
    rw [show 10 * ((v / 10 : Nat) : Int) + (((48 + v % 10 : Nat) : Int) - 48) = (v : Int) by omega]
    exact ih
theorem val_dec (u : Nat) : val (Lib.decDigits u) = u := by
  have h := fold_dgs u (Lib.nDigits u)
  rw [dgs_all, Nat.div_eq_of_lt (Lib.lt_pow_nDigits u)] at h
  exact h
theorem dig_rng {c : UInt8} (h : dig c = true) : 48 ≤ c.toNat ∧ c.toNat ≤ 57 := by simpa [dig] using h
theorem val_rng : ∀ (k : Nat) (l : List UInt8), l.length = k → l.all dig = true → 0 ≤ val l ∧ val l < 10 ^ k
  | 0, l, hl, _ => by
    rw [List.length_eq_zero_iff.1 hl]
    decide
  | k + 1, l, hl, h => by
    have hne : l ≠ [] := by rintro rfl; cases hl
    have e := (List.dropLast_concat_getLast hne).symm
    rw [e] at h ⊢
    rw [List.all_append] at h
    simp only [List.all_cons, List.all_nil, Bool.and_true, Bool.and_eq_true] at h
    obtain ⟨h1, h2⟩ := val_rng k l.dropLast (by simp [hl]) h.1
    obtain ⟨d1, d2⟩ := dig_rng h.2
    rw [val_snoc, Int.pow_succ]
    generalize val l.dropLast = v at *
    generalize (10 : Int) ^ k = w at *
    omega
theorem nD_le {u : Nat} (h : u < 10000000000) : Lib.nDigits u ≤ 10 := by
  rcases Nat.lt_or_ge (Lib.nDigits u) 11 with h1 | h1
  · omega
  · rcases Nat.eq_zero_or_pos u with rfl | hp
    · rw [Lib.nDigits_small (by decide)] at h1; omega
    · have h2 := pow_nDigits u hp
      have h3 : 10 ^ 10 ≤ 10 ^ (Lib.nDigits u - 1) := Nat.pow_le_pow_right (by decide) (by omega)
      have h4 : (10 : Nat) ^ 10 = 10000000000 := by decide
      omega
/-- what stands in a text that spells a word -/
theorem of_num {t : List UInt8} {n : Int} (h : numOf t = some n) : mins t = decide (n < 0) ∧ tl t = Lib.decDigits n.natAbs ∧ (tl t).all dig = true ∧ 1 ≤ (tl t).length ∧ (tl t).length ≤ 10 ∧ val (tl t) = n.natAbs := by
  obtain ⟨rfl, hw⟩ := numOf_iff.1 h
  have hr := okW_in hw
  have h1 := Lib.nDigits_pos n.natAbs
  have h2 := nD_le (u := n.natAbs) (by omega)
  have h3 := Lib.decDigits_length n.natAbs
  by_cases hn : n < 0
  · have hm : mins (Lib.itoa n) = true := by
      rw [itoa_neg hn]
      rfl
    have ht : tl (Lib.itoa n) = Lib.decDigits n.natAbs := by
      unfold tl
      rw [hm, itoa_neg hn]
      rfl
    exact ⟨by rw [hm]; simp [hn], ht, by rw [ht]; exact dec_dig _, by rw [ht]; omega, by rw [ht]; omega, by rw [ht]; exact val_dec _⟩
  · obtain ⟨c, r, e, hd⟩ := dec_cons n.toNat
    obtain ⟨d1, d2⟩ := dig_rng hd
    have hm : mins (Lib.itoa n) = false := by
      rw [itoa_pos (by omega), e]
      have : (c == 45) = false := by
        rw [Bool.eq_false_iff]
        intro h
        have := beq_iff_eq.1 h
        rw [this] at d1
        exact absurd d1 (by decide)
      simp [mins, this]
    have ht : tl (Lib.itoa n) = Lib.decDigits n.natAbs := by
      unfold tl
      rw [hm, itoa_pos (by omega)]
      simp [show n.natAbs = n.toNat by omega]
    exact ⟨by rw [hm]; simp [hn], ht, by rw [ht]; exact dec_dig _, by rw [ht]; omega, by rw [ht]; omega, by rw [ht]; exact val_dec _⟩
theorem cmpN (a b : List UInt8) : cmpS BinOp.neq (sB a) (sB b) = !(a == b) := by
  simp [cmpS, sB, ByteArray.toList_mk]
theorem cmpE (a b : List UInt8) : cmpS BinOp.eql (sB a) (sB b) = (a == b) := by
  simp [cmpS, sB, ByteArray.toList_mk]
theorem wordLoop {s : List UInt8} (hl : s.length ≤ 10) (m : Bool) : Evt fun n => loopEv (L72_0 (ev Tryd.prog sg n) n) n [.int 0, .str (sB s), .bool m, .int 0] = if s.all dig then some (.x 0, [.str (sB s), .bool m, .int (val s)]) else some (.r, [.int 0, .bool false]) := by
  have hs : (sB s).size = s.length := size_sB _
  have hk1 : (s.takeWhile dig).length ≤ s.length := (List.takeWhile_sublist _).length_le
  have htk : s.take (s.takeWhile dig).length = s.takeWhile dig := by
    have : (s.takeWhile dig ++ s.dropWhile dig).take (s.takeWhile dig).length = s.takeWhile dig := List.take_left
    rwa [List.takeWhile_append_dropWhile] at this
  have hall : (s.takeWhile dig).all dig = true := by
    rw [List.all_eq_true]
    exact fun x hx => tw_all hx
  have hstep : ∀ i, i < (s.takeWhile dig).length → dig (s.getD i 0) = true := by
    intro i hi
    have hm : s.getD i 0 ∈ s.takeWhile dig := by
      rw [← htk]
      have : s.getD i 0 = (s.take (s.takeWhile dig).length).getD i 0 := by
        simp [List.getD_eq_getElem?_getD, List.getElem?_take, hi]
      rw [this, List.getD_eq_getElem?_getD, List.getElem?_eq_getElem (by rw [List.length_take]; omega)]
      exact List.getElem_mem _
    exact tw_all hm
  have hend : (s.takeWhile dig).length < s.length → dig (s.getD (s.takeWhile dig).length 0) = false := by
    intro h
    have e : s = s.takeWhile dig ++ s.dropWhile dig := List.takeWhile_append_dropWhile.symm
    cases hd : s.dropWhile dig with
    | nil => rw [hd, List.append_nil] at e; rw [← e] at h; omega
    | cons c r =>
      have hc : dig c = false := by
        have := List.head_dropWhile_not dig (by rw [hd]; simp : s.dropWhile dig ≠ [])
        simpa [hd] using this
      have : s.getD (s.takeWhile dig).length 0 = c := by
        rw [List.getD_eq_getElem?_getD]
        conv => lhs; arg 1; arg 1; rw [e, hd]
        simp
      rw [this]
      exact hc
  have hiff : s.all dig = decide ((s.takeWhile dig).length = s.length) := by
    rw [Bool.eq_iff_iff, decide_eq_true_eq]
    constructor
    · intro h
      have : s.takeWhile dig = s := tw_self (List.all_eq_true.1 h)
      rw [this]
    · intro h
      rw [h, List.take_length] at htk
      rw [htk]
      exact hall
  generalize hK : (s.takeWhile dig).length = k at *
  have h1 := loop_run (body := fun n => L72_0 (ev Tryd.prog sg n) n) (fun i => [.int i, .str (sB s), .bool m, .int (val (s.take i))]) k (e := if k = s.length then .x 0 else .r)
    (res := if k = s.length then [.str (sB s), .bool m, .int (val s)] else [.int 0, .bool false]) (fun i hi => ?_) ?_ (by split <;> simp)
  · refine h1.mp fun n q => ?_
    have q' : loopEv (L72_0 (ev Tryd.prog sg n) n) n [.int 0, .str (sB s), .bool m, .int 0] = some (if k = s.length then .x 0 else .r, if k = s.length then [.str (sB s), .bool m, .int (val s)] else [.int 0, .bool false]) := q
    rw [q', hiff]
    by_cases hc : k = s.length <;> simp [hc]
  · have hd := digS1 (s.getD i 0)
    rw [hstep i hi] at hd
    obtain ⟨d1, d2⟩ := dig_rng (hstep i hi)
    have hsub : (s.take i).all dig = true := by
      rw [List.all_eq_true] at hall ⊢
      intro x hx
      refine hall x ?_
      rw [← htk]
      have : s.take i = (s.take k).take i := by rw [List.take_take, Nat.min_eq_left (by omega)]
      rw [this] at hx
      exact List.mem_of_mem_take hx
    obtain ⟨v1, v2⟩ := val_rng i (s.take i) (by rw [List.length_take]; omega) hsub
    have v3 : (10 : Int) ^ i ≤ 10 ^ 10 := by
      have := Nat.pow_le_pow_right (show 0 < 10 by decide) (show i ≤ 10 by omega)
      exact_mod_cast this
    have v4 : (10 : Int) ^ 10 = 10000000000 := by decide
    have e1 : s.take (i + 1) = s.take i ++ [s.getD i 0] := by
      rw [List.take_add_one, List.getElem?_eq_getElem (by omega), List.getD_eq_getElem?_getD, List.getElem?_eq_getElem (by omega)]
      rfl
    rw [e1, val_snoc]
    generalize val (s.take i) = v at *
    have hk : ((i : Int)).toNat = i := by omega
    have c1 : ltI (i : Int) (sB s).size = true := ltT (by rw [hs]; omega)
    have c2 : geI (i : Int) 0 = true := geT (by omega)
    have w1 : IntKind.i64.wrap ((i : Int) + 1) = ((i + 1 : Nat) : Int) := by rw [wrap64 (by omega) (by omega)]; omega
    have w2 : IntKind.i64.wrap (IntKind.i64.wrap (IntKind.i64.wrap (10 * v) + IntKind.i64.wrap ((s.getD i 0).toNat : Int)) - 48) = 10 * v + (((s.getD i 0).toNat : Int) - 48) := by
      rw [wrap64 (x := 10 * v) (by omega) (by omega), wrap64 (x := ((s.getD i 0).toNat : Int)) (by omega) (by omega), wrap64 (x := 10 * v + ((s.getD i 0).toNat : Int)) (by omega) (by omega), wrap64 (by omega) (by omega)]
      omega
    refine hd.mp fun n q => ?_
    simp only [L72_0, nth_0, nth_1, nth_2, nth_3, toInt_int, toStr_str, c1, c2, iff_true', hk, bd, q, Option.bind_some, toBool_bool, Bool.not_true, iff_false', w1, w2]
  · by_cases hc : k = s.length
    · rw [hc, List.take_length]
      have c1 : ltI (s.length : Int) (sB s).size = false := ltF (by rw [hs]; omega)
      refine Evt.all fun n => ?_
      simp only [L72_0, nth_0, nth_1, nth_2, nth_3, toInt_int, toStr_str, c1, iff_false', if_true]
    · have hlt : k < s.length := by omega
      have hd := digS1 (s.getD k 0)
      rw [hend hlt] at hd
      have hk : ((k : Int)).toNat = k := by omega
      have c1 : ltI (k : Int) (sB s).size = true := ltT (by rw [hs]; omega)
      have c2 : geI (k : Int) 0 = true := geT (by omega)
      refine hd.mp fun n q => ?_
      simp only [L72_0, nth_0, nth_1, nth_2, nth_3, toInt_int, toStr_str, c1, c2, iff_true', hk, bd, q, Option.bind_some, toBool_bool, Bool.not_false, hc, if_false]
/-- behind the sign -/
noncomputable def W2 (I : Interp) (n : Nat) (p1 : List PV) : Option (List PV) :=
  (iff (selB (ltI ((nth p1 0).toStr.size : Int) (1 : Int)) (PV.bool true) (selB ((ltI ((nth p1 0).toStr.size : Int) (1 : Int)) == false) (PV.bool (gtI (selB ((ltI ((nth p1 0).toStr.size : Int) (1 : Int)) == false) (PV.int ((selB ((ltI ((nth p1 0).toStr.size : Int) (1 : Int)) == false) (nth p1 0) PV.unit).toStr.size : Int)) PV.unit).toInt (10 : Int))) PV.unit)).toBool
  (some [(PV.int (0 : Int)), (PV.bool false)])
  (thenN (thenE (loopEv (L72_0 I n) n [(PV.int (0 : Int)), (nth p1 0), (nth p1 1), (PV.int (0 : Int))])
  (passB 0))
  (fun p4 => ((I 24 [(nth p4 2)]).bind fun r5 =>
  (iff (selB (cmpS BinOp.neq (nth r5 0).toStr (nth p4 0).toStr) (PV.bool true) (selB ((cmpS BinOp.neq (nth r5 0).toStr (nth p4 0).toStr) == false) (selB (selB ((cmpS BinOp.neq (nth r5 0).toStr (nth p4 0).toStr) == false) (selB ((cmpS BinOp.neq (nth r5 0).toStr (nth p4 0).toStr) == false) (nth p4 1) PV.unit) PV.unit).toBool (selB ((selB ((cmpS BinOp.neq (nth r5 0).toStr (nth p4 0).toStr) == false) (selB ((cmpS BinOp.neq (nth r5 0).toStr (nth p4 0).toStr) == false) (nth p4 1) PV.unit) PV.unit).isB true) (PV.bool (eqI (selB ((selB ((cmpS BinOp.neq (nth r5 0).toStr (nth p4 0).toStr) == false) (selB ((cmpS BinOp.neq (nth r5 0).toStr (nth p4 0).toStr) == false) (nth p4 1) PV.unit) PV.unit).isB true) (nth p4 2) PV.unit).toInt (0 : Int))) PV.unit) (PV.bool false)) PV.unit)).toBool
  (some [(PV.int (0 : Int)), (PV.bool false)])
  (thenN (iff (nth p4 1).toBool
  (some (Ex.n, [(PV.int (IntKind.i64.wrap ((0 : Int) - (nth p4 2).toInt)))]))
  (some (Ex.n, [(nth p4 2)])))
  (fun p6 => ((I 81 [(nth p6 0)]).bind fun r7 =>
  (some [(nth p6 0), (nth r7 0)])))
  (retE fun q8 => [(nth q8 0), (nth q8 1)])))))
  (retE fun q9 => [(nth q9 0), (nth q9 1)])))
theorem word1 {t : List UInt8} (I : Interp) (n : Nat) : F72 I n [.str (sB t)] = W2 I n [.str (sB (tl t)), .bool (mins t)] := by
  have hs : (sB t).size = t.length := size_sB _
  have e45 := eq_k (t.getD 0 0) (k := 45) (by decide)
  have e45' : (t.getD 0 0 == UInt8.ofNat 45) = (t.getD 0 0 == 45) := rfl
  rw [e45', show ((45 : Nat) : Int) = 45 from rfl] at e45
  have eg : gtI (t.length : Int) 0 = decide (0 < t.length) := by rw [Bool.eq_iff_iff]; simp [gtI]
  have b0 : geI 0 0 = true := rfl
  have b1 : geI 1 0 = true := rfl
  have ft : (false == true) = false := rfl
  cases hm : decide (0 < t.length) with
  | false =>
    rw [hm] at eg
    have mm : mins t = false := by unfold mins; rw [hm]; rfl
    have tt : tl t = t := by unfold tl; rw [mm]; rfl
    rw [tt, mm]
    simp only [F72, nth_0, toStr_str, hs, eg, Bool.false_eq_true, ft, iff_false', Option.bind_some, selB_false, toBool_bool, thenN_n]
    rfl
  | true =>
    rw [hm] at eg
    have hlt := of_decide_eq_true hm
    have b2 : ltI 0 (t.length : Int) = true := ltT (by omega)
    have b3 : leI 1 (t.length : Int) = true := leT (by omega)
    have b4 : leI (t.length : Int) t.length = true := leT (by omega)
    cases hc : (t.getD 0 0 == 45) with
    | false =>
      rw [hc] at e45
      have mm : mins t = false := by unfold mins; rw [hm, hc]; rfl
      have tt : tl t = t := by unfold tl; rw [mm]; rfl
      rw [tt, mm]
      simp only [F72, nth_0, toStr_str, hs, eg, beq_self_eq_true, iff_true', b0, selB_true, b2, Int.toNat_zero, bd, Option.bind_some, toInt_int, e45, toBool_bool, iff_false', thenN_n]
      rfl
    | true =>
      rw [hc] at e45
      have mm : mins t = true := by unfold mins; rw [hm, hc]; rfl
      have tt : tl t = t.drop 1 := by unfold tl; rw [mm]; rfl
      have ex : (sB t).extract (1 : Int).toNat ((t.length : Int)).toNat = sB (t.drop 1) := by
        rw [ext_sB]
        congr 1
        exact List.take_of_length_le (by simp)
      rw [tt, mm]
      simp only [F72, nth_0, toStr_str, hs, eg, beq_self_eq_true, iff_true', b0, b1, b3, b4, selB_true, b2, Int.toNat_zero, bd, Option.bind_some, toInt_int, e45, toBool_bool, thenN_n, ex]
      rfl
theorem wordS {t : List UInt8} (ht : t.length ≤ 100000) : ∃ x, (∀ n, numOf t = some n → x = n) ∧ Rn 72 [.str (sB t)] [.int x, .bool (numOf t).isSome] := by
  have hsz : (sB (tl t)).size = (tl t).length := size_sB _
  have key : ∀ {x : Int} {b : Bool}, (∀ n, numOf t = some n → x = n) → b = (numOf t).isSome → (Evt fun n => W2 (ev Tryd.prog sg n) n [.str (sB (tl t)), .bool (mins t)] = some [.int x, .bool b]) → ∃ x, (∀ n, numOf t = some n → x = n) ∧ Rn 72 [.str (sB t)] [.int x, .bool (numOf t).isSome] := by
    intro x b h1 h2 h3
    subst h2
    exact ⟨x, h1, Is.of e72 (h3.mp fun n q => by rw [word1, q])⟩
  have bad : (∀ n, numOf t ≠ some n) → (∀ n, numOf t = some n → (0 : Int) = n) ∧ false = (numOf t).isSome := fun h => by
    have : numOf t = none := by
      cases e : numOf t with
      | none => rfl
      | some n => exact absurd e (h n)
    rw [this]
    exact ⟨fun n h => (by cases h), rfl⟩
  by_cases h1 : (tl t).length < 1
  · obtain ⟨k1, k2⟩ := bad fun n hn => by have := (of_num hn).2.2.2.1; omega
    have c1 : ltI ((tl t).length : Int) 1 = true := ltT (by omega)
    exact key k1 k2 (Evt.all fun n => by simp only [W2, nth_0, toStr_str, hsz, c1, selB_true, toBool_bool, iff_true'])
  have c1 : ltI ((tl t).length : Int) 1 = false := ltF (by omega)
  by_cases h2 : 10 < (tl t).length
  · obtain ⟨k1, k2⟩ := bad fun n hn => by have := (of_num hn).2.2.2.2.1; omega
    have c2 : gtI ((tl t).length : Int) 10 = true := gtT (by omega)
    exact key k1 k2 (Evt.all fun n => by simp only [W2, nth_0, toStr_str, hsz, c1, beq_self_eq_true, selB_true, selB_false, toInt_int, c2, toBool_bool, iff_true'])
  have c2 : gtI ((tl t).length : Int) 10 = false := gtF (by omega)
  have hl := wordLoop (s := tl t) (by omega) (mins t)
  cases h3 : (tl t).all dig with
  | false =>
    obtain ⟨k1, k2⟩ := bad fun n hn => by have := (of_num hn).2.2.1; rw [h3] at this; cases this
    rw [h3] at hl
    simp only [Bool.false_eq_true, if_false] at hl
    exact key k1 k2 (hl.mp fun n q => by
      simp only [W2, nth_0, nth_1, toStr_str, hsz, c1, beq_self_eq_true, selB_true, selB_false, toInt_int, c2, toBool_bool, iff_false', q, thenE_some]
      rfl)
  | true =>
    rw [h3] at hl
    simp only [if_true] at hl
    obtain ⟨v1, v2⟩ := val_rng (tl t).length (tl t) rfl h3
    have v3 : (10 : Int) ^ (tl t).length ≤ 10 ^ 10 := by
      have := Nat.pow_le_pow_right (show 0 < 10 by decide) (show (tl t).length ≤ 10 by omega)
      exact_mod_cast this
    have v4 : (10 : Int) ^ 10 = 10000000000 := by decide
    have hd := digS (n := val (tl t)) (by omega) (by omega)
    have cn := cmpN (Lib.itoa (val (tl t))) (tl t)
    cases h4 : (Lib.itoa (val (tl t)) == tl t) with
    | false =>
      obtain ⟨k1, k2⟩ := bad fun n hn => by
        obtain ⟨_, o2, _, _, _, o6⟩ := of_num hn
        rw [o6, itoa_pos (by omega), Int.toNat_natCast, ← o2] at h4
        simp at h4
      rw [h4] at cn
      exact key k1 k2 (hl.mp2 hd fun n q q2 => by
        simp only [W2, nth_0, nth_1, nth_2, toStr_str, hsz, c1, beq_self_eq_true, selB_true, selB_false, toInt_int, c2, toBool_bool, iff_false', q, thenE_some, passB_same, thenN_n, q2, Option.bind_some, dgB, cn, Bool.not_false, iff_true'])
    | true =>
      rw [h4] at cn
      have h4 := beq_iff_eq.1 h4
      cases h5 : mins t with
      | false =>
        have tt : tl t = t := by unfold tl; rw [h5]; rfl
        have hw := is101 (val (tl t))
        have hN : (numOf t).isSome = okW (val (tl t)) := by
          cases ho : okW (val (tl t)) with
          | true => rw [numOf_iff.2 ⟨h4.trans tt, ho⟩]; rfl
          | false =>
            cases e : numOf t with
            | none => rfl
            | some m =>
              obtain ⟨_, _, _, _, _, o6⟩ := of_num e
              obtain ⟨a1, a2⟩ := numOf_iff.1 e
              have ar := okW_in a2
              have := itoa_inj (n := m) (m := val (tl t)) (by omega) (by omega) (by rw [a1, h4, tt])
              rw [← this, a2] at ho
              cases ho
        rw [h5] at hl key
        refine key (x := val (tl t)) (fun n hn => ?_) hN.symm (Evt.mp3 hl hd hw fun n q q2 q3 => ?_)
        · obtain ⟨o1, _, _, _, _, o6⟩ := of_num hn
          rw [h5] at o1
          have : ¬ n < 0 := by simpa using o1.symm
          omega
        · simp only [W2, nth_0, nth_1, nth_2, toStr_str, hsz, c1, beq_self_eq_true, selB_true, selB_false, toInt_int, c2, toBool_bool, iff_false', q, thenE_some, passB_same, thenN_n, q2, Option.bind_some, dgB, cn, Bool.not_true, q3]
      | true =>
        rw [h5] at hl key
        by_cases h6 : val (tl t) = 0
        · obtain ⟨k1, k2⟩ := bad fun n hn => by
            obtain ⟨o1, _, _, _, _, o6⟩ := of_num hn
            rw [h5] at o1
            have : n < 0 := by simpa using o1.symm
            omega
          have c6 : eqI (val (tl t)) 0 = true := eqT h6
          exact key k1 k2 (hl.mp2 hd fun n q q2 => by
            simp only [W2, nth_0, nth_1, nth_2, toStr_str, hsz, c1, beq_self_eq_true, selB_true, selB_false, toInt_int, c2, toBool_bool, isB_bool, iff_false', iff_true', q, thenE_some, passB_same, thenN_n, q2, Option.bind_some, dgB, cn, Bool.not_true, c6])
        · have tt : tl t = t.drop 1 := by unfold tl; rw [h5]; rfl
          have t45 : t = 45 :: t.drop 1 := by
            unfold mins at h5
            simp only [Bool.and_eq_true, decide_eq_true_eq, beq_iff_eq] at h5
            obtain ⟨p1, p2⟩ := h5
            cases t with
            | nil => simp at p1
            | cons c r => simp at p2; rw [p2]; rfl
          have hni : Lib.itoa (-val (tl t)) = t := by
            have hv : Lib.decDigits (-val (tl t)).natAbs = tl t := by
              rw [show (-val (tl t)).natAbs = (val (tl t)).toNat by omega, ← itoa_pos v1]
              exact h4
            rw [itoa_neg (by omega), hv, tt]
            exact t45.symm
          have hw := is101 (-val (tl t))
          have hN : (numOf t).isSome = okW (-val (tl t)) := by
            cases ho : okW (-val (tl t)) with
            | true => rw [numOf_iff.2 ⟨hni, ho⟩]; rfl
            | false =>
              cases e : numOf t with
              | none => rfl
              | some m =>
                obtain ⟨a1, a2⟩ := numOf_iff.1 e
                have ar := okW_in a2
                have := itoa_inj (n := m) (m := -val (tl t)) (by omega) (by omega) (by rw [a1, hni])
                rw [← this, a2] at ho
                cases ho
          have c6 : eqI (val (tl t)) 0 = false := eqF h6
          have w1 : IntKind.i64.wrap (0 - val (tl t)) = -val (tl t) := by rw [wrap64 (by omega) (by omega)]; omega
          refine key (x := -val (tl t)) (fun n hn => ?_) hN.symm (Evt.mp3 hl hd hw fun n q q2 q3 => ?_)
          · obtain ⟨o1, _, _, _, _, o6⟩ := of_num hn
            rw [h5] at o1
            have : n < 0 := by simpa using o1.symm
            omega
          · simp only [W2, nth_0, nth_1, nth_2, toStr_str, hsz, c1, beq_self_eq_true, selB_true, selB_false, toInt_int, c2, toBool_bool, isB_bool, iff_false', iff_true', q, thenE_some, passB_same, thenN_n, q2, Option.bind_some, dgB, cn, Bool.not_true, c6, w1, q3]
end Go.Proofs.YthmhgnnaihkjaaaDoor.GFnExactRenamed
