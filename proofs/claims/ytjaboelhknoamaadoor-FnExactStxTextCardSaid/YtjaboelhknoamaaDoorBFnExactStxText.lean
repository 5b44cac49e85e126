/- What functions of the program and of the reference come to, for the law FnExactStxText. Each under the conditions that it names. -/
import Derived.Test.YtjaboelhknoamaaDoorAFnExactStxText
namespace Go.Proofs.YtjaboelhknoamaaDoor.GFnExactStxText
open Go Go.Rsc Go.Proofs.YtjaboelhknoamaaDoor
set_option maxRecDepth 100000
set_option linter.unusedVariables false
set_option linter.unusedSimpArgs false
/-! ### Numbers, written out -/
def dgB (n : Int) : PV := .str (sB (Lib.itoa n))
theorem digI {n : Int} (h0 : -9223372036854775808 ≤ n) (h1 : n < 9223372036854775808) : Rn 31 [.int n] [dgB n] := by
  have ho : Rn 58 [.int n] [dgB n] := orc_is (s := itoaSig) rfl rfl (by
    show (if (decide (-9223372036854775808 ≤ n) && decide (n ≤ 9223372036854775807)) = true then some [dgB n] else none) = some [dgB n]
    rw [if_pos]
    simp only [Bool.and_eq_true, decide_eq_true_eq]
    omega)
  exact Is.of e31 (ho.mp fun n h => by simp [F31, h])
/-- what is left, and what is written, behind j rounds -/
def dinv (s : Int) (u : Nat) (b : Bool) (j : Nat) : List PV := [.int (s * ((u / 10 ^ j : Nat) : Int)), .bool b, .str (sB (dgs u j))]
theorem wrap8 {x : Int} (h0 : 0 ≤ x) (h1 : x < 256) : IntKind.u8.wrap x = x := by
  unfold IntKind.wrap
  simp only [IntKind.bits, IntKind.signed]
  first
    | omega
    | (simp; omega)
theorem b2s_one {v : Nat} (h : v < 10) : b2sL [.int (IntKind.u8.wrap (IntKind.i64.wrap (48 + (v : Int))))] = sB [UInt8.ofNat (48 + v)] := by
  rw [wrap64 (by omega) (by omega), wrap8 (by omega) (by omega)]
  unfold b2sL sB
  have : ((48 : Int) + v).toNat = 48 + v := by omega
  simp [PV.toInt, this]
theorem digLoop {s : Int} {u : Nat} {b : Bool} (hs : s = 1 ∨ s = -1) (hu : u < 9223372036854775809) (h1 : s = 1 → u < 9223372036854775808) :
    Evt fun n => loopEv (L28_0 (ev Tryd.prog sg n) n) n [.int (s * (u : Int)), .bool b, .str (sB [])] = some (.x 0, [.bool b, .str (sB (if u = 0 then [] else Lib.decDigits u))]) := by
  have e0 : ([.int (s * (u : Int)), .bool b, .str (sB [])] : List PV) = dinv s u b 0 := by simp [dinv, dgs]
  rw [e0]
  by_cases hz : u = 0
  · subst hz
    refine loop_run (dinv s 0 b) 0 (fun i hi => by omega) (Evt.all fun n => ?_) (by decide)
    simp [L28_0, dinv, neF, dgs]
  · rw [if_neg hz, ← dgs_all]
    have hk := nDigits_le (u := u) (by omega)
    refine loop_run (dinv s u b) (Lib.nDigits u) (fun j hj => Evt.all fun n => ?_) (Evt.all fun n => ?_) (by decide)
    · have hp := pow_nDigits u (by omega)
      have hp2 : 10 ^ j ≤ 10 ^ (Lib.nDigits u - 1) := Nat.pow_le_pow_right (by decide) (by omega)
      have hq : 1 ≤ u / 10 ^ j := (Nat.one_le_div_iff (Nat.pow_pos (by decide))).2 (by omega)
      have hdg : Lib.dg u j = UInt8.ofNat (48 + u / 10 ^ j % 10) := rfl
      have hnext : u / 10 ^ (j + 1) = u / 10 ^ j / 10 := by rw [Nat.pow_succ, Nat.div_div_eq_div_mul]
      have hle : u / 10 ^ j ≤ u := Nat.div_le_self _ _
      have hsz : (dgs u j).length = j := dgs_length u j
      simp only [dinv, dgs_succ, hnext, hdg]
      generalize u / 10 ^ j = v at *
      have hr := b2s_one (v := v % 10) (Nat.mod_lt _ (by decide))
      rcases hs with rfl | rfl
      · have a1 : arith .rem .i64 (v : Int) 10 = ((v % 10 : Nat) : Int) := arith_rem v 10
        have a2 : arith .quo .i64 (v : Int) 10 = ((v / 10 : Nat) : Int) := arith_quo v 10 (by have := h1 rfl; omega)
        have c1 : ltI ((v % 10 : Nat) : Int) 0 = false := ltF (by omega)
        have c2 : neI (v : Int) 0 = true := neT (by omega)
        have c3 : leI ((sB ([UInt8.ofNat (48 + v % 10)] ++ dgs u j)).size : Int) 9223372036854775807 = true := leT (by simp [hsz]; omega)
        simp only [L28_0, Int.one_mul, nth_0, nth_1, nth_2, nth_3, toInt_int, toStr_str, a1, a2, c1, c2, iff_true', iff_false', thenN_n, hr, catB_sB, c3, neT (x := 10) (y := 0) (by decide)]
        rfl
      · have a1 : arith .rem .i64 (-1 * (v : Int)) 10 = -((v % 10 : Nat) : Int) := by
          show (-1 * (v : Int)).tmod 10 = _
          rw [Int.neg_one_mul, Int.neg_tmod, Int.tmod_eq_emod_of_nonneg (by omega)]; rfl
        have a2 : arith .quo .i64 (-1 * (v : Int)) 10 = -1 * ((v / 10 : Nat) : Int) := by
          show IntKind.i64.wrap ((-1 * (v : Int)).tdiv 10) = _
          rw [Int.neg_one_mul, Int.neg_tdiv, Int.tdiv_eq_ediv_of_nonneg (by omega), wrap64 (by omega) (by omega), Int.neg_one_mul]; rfl
        have c2 : neI (-1 * (v : Int)) 0 = true := neT (by omega)
        have c3 : leI ((sB ([UInt8.ofNat (48 + v % 10)] ++ dgs u j)).size : Int) 9223372036854775807 = true := leT (by simp [hsz]; omega)
        have a3 : IntKind.i64.wrap (0 - -((v % 10 : Nat) : Int)) = ((v % 10 : Nat) : Int) := by rw [wrap64 (by omega) (by omega)]; omega
        by_cases hv : v % 10 = 0
        · have c1 : ltI ((v % 10 : Nat) : Int) 0 = false := ltF (by omega)
          have a4 : -((v % 10 : Nat) : Int) = ((v % 10 : Nat) : Int) := by omega
          simp only [L28_0, nth_0, nth_1, nth_2, nth_3, toInt_int, toStr_str, a1, a2, c1, c2, iff_true', iff_false', thenN_n, a4, hr, catB_sB, c3, neT (x := 10) (y := 0) (by decide)]
          rfl
        · have c1 : ltI (-((v % 10 : Nat) : Int)) 0 = true := ltT (by omega)
          simp only [L28_0, nth_0, nth_1, nth_2, nth_3, toInt_int, toStr_str, a1, a2, a3, c1, c2, iff_true', iff_false', thenN_n, hr, catB_sB, c3, neT (x := 10) (y := 0) (by decide)]
          rfl
    · have hl := Lib.lt_pow_nDigits u
      have : u / 10 ^ Lib.nDigits u = 0 := Nat.div_eq_of_lt hl
      simp [L28_0, dinv, this, neF]
theorem digS {n : Int} (h0 : -9223372036854775808 ≤ n) (h1 : n < 9223372036854775808) : Rn 28 [.int n] [dgB n] := by
  by_cases hz : n = 0
  · subst hz
    have e : dgB 0 = .str ⟨#[48]⟩ := by simp [dgB, Lib.itoa, Lib.decDigits_one, sB]
    exact Is.of e28 (Evt.all fun n => by simp [F28, eqT, e])
  · have c1 : eqI n 0 = false := eqF hz
    by_cases hn : n < 0
    · have hl := digLoop (s := -1) (u := n.natAbs) (b := true) (.inr rfl) (by omega) (fun h => by cases h)
      rw [show -1 * (n.natAbs : Int) = n by omega, if_neg (by omega : ¬ n.natAbs = 0)] at hl
      refine Is.of e28 (hl.mp fun k h => ?_)
      have c2 : ltI n 0 = true := ltT hn
      have e : dgB n = .str (sB ([45] ++ Lib.decDigits n.natAbs)) := by simp [dgB, Lib.itoa, hn]
      have e1 : (⟨#[]⟩ : ByteArray) = sB [] := rfl
      have e2 : (⟨#[45]⟩ : ByteArray) = sB [45] := rfl
      have e3 : leI ((sB ([45] ++ Lib.decDigits n.natAbs)).size : Int) 9223372036854775807 = true := leT (by
        have := nDigits_le (u := n.natAbs) (by omega)
        simp [Lib.decDigits_length]; omega)
      simp only [F28, nth_0, nth_1, toInt_int, c1, iff_false', c2, e1, h, thenE_some, passB_same, thenN_n, toBool_bool, iff_true', e2, toStr_str, catB_sB, e3, e]
    · have hl := digLoop (s := 1) (u := n.toNat) (b := false) (.inl rfl) (by omega) (fun h => by omega)
      rw [show 1 * (n.toNat : Int) = n by omega, if_neg (by omega : ¬ n.toNat = 0)] at hl
      refine Is.of e28 (hl.mp fun k h => ?_)
      have c2 : ltI n 0 = false := ltF (by omega)
      have e : dgB n = .str (sB (Lib.decDigits n.toNat)) := by simp [dgB, Lib.itoa, hn]
      have e1 : (⟨#[]⟩ : ByteArray) = sB [] := rfl
      simp only [F28, nth_0, nth_1, toInt_int, c1, iff_false', c2, e1, h, thenE_some, passB_same, thenN_n, toBool_bool, e]
/-! ### Sets of numbers, written out -/
def rng (S : List Int) : Prop := ∀ w, w ∈ S → -9223372036854775808 ≤ w ∧ w < 9223372036854775808
theorem intsOf {q : PV} (h : WfT Tryd.prog 33 q) : ∃ S : List Int, q = .list (S.map PV.int) ∧ rng S := by
  obtain ⟨l, rfl, hl, he⟩ := wf_slice (e := 3) (by kernel_rfl) h
  have : ∀ l : List PV, (∀ q, q ∈ l → ∃ x : Int, q = .int x) → ∃ S : List Int, l = S.map PV.int := by
    intro l
    induction l with
    | nil => exact fun _ => ⟨[], rfl⟩
    | cons q l ih =>
      intro hq
      obtain ⟨x, rfl⟩ := hq q (by simp)
      obtain ⟨S, rfl⟩ := ih fun q h => hq q (by simp [h])
      exact ⟨x :: S, rfl⟩
  obtain ⟨S, rfl⟩ := this l fun q hq => by
    obtain ⟨x, e, _⟩ := wf_int (k := .i64) (by kernel_rfl) (he q hq)
    exact ⟨x, e⟩
  refine ⟨S, rfl, fun w hm => ?_⟩
  obtain ⟨x, e, hx⟩ := wf_int (k := .i64) (by kernel_rfl) (he (.int w) (List.mem_map.2 ⟨w, hm, rfl⟩))
  cases e
  exact wf64 hx
theorem wts_ints (S : List Int) : PV.wts (S.map PV.int) = 0 := by
  induction S with
  | nil => simp
  | cons x S ih => simp [ih]
def setL (S : List Int) : List UInt8 := Lib.join (S.map Lib.itoa) [32]
theorem setL_succ {S : List Int} {k : Nat} (h : k < S.length) : setL (S.take (k + 1)) = (if k = 0 then [] else setL (S.take k) ++ [32]) ++ Lib.itoa (S.getD k 0) := by
  have e : S.take (k + 1) = S.take k ++ [S.getD k 0] := by
    rw [List.take_add_one, List.getElem?_eq_getElem h]
    simp [List.getD_eq_getElem?_getD, h]
  unfold setL
  rw [e, List.map_append, List.map_cons, List.map_nil]
  by_cases h0 : k = 0
  · subst h0
    simp [Lib.join_one]
  · rw [if_neg h0, join_snoc]
    intro hn
    have := congrArg List.length hn
    rw [List.length_map, List.length_take, List.length_nil] at this
    omega
theorem setL_len {S : List Int} (hr : rng S) : (setL S).length ≤ 22 * S.length := by
  have := join_le (S.map Lib.itoa) [32] 21 (fun x hx => by
    obtain ⟨w, hw, rfl⟩ := List.mem_map.1 hx
    exact itoa_len (hr w hw).1 (hr w hw).2)
  unfold setL
  simpa using this
theorem rng_take {S : List Int} (h : rng S) (k : Nat) : rng (S.take k) := fun w hw => h w (List.mem_of_mem_take hw)
theorem rng_at {S : List Int} (h : rng S) {k : Nat} (hk : k < S.length) : -9223372036854775808 ≤ S.getD k 0 ∧ S.getD k 0 < 9223372036854775808 := h _ (by simp [List.getD_eq_getElem?_getD, hk])
theorem nth_int {S : List Int} {k : Nat} (h : k < S.length) : nth (S.map PV.int) k = .int (S.getD k 0) := by
  unfold nth
  simp [List.getD_eq_getElem?_getD, h]
def setP (S : List Int) : PV := .str (sB (123 :: (setL S ++ [125])))
theorem setS {S : List Int} (hr : rng S) (hl : S.length ≤ 1048576) : Rn 36 [.list (S.map PV.int)] [setP S] := by
  have hlen : ((S.map PV.int).length : Int) = S.length := by simp
  have hloop : Evt fun n => loopEv (L36_0 (ev Tryd.prog sg n) n) n [.int ((0 : Nat) : Int), .list (S.map PV.int), .str (sB (123 :: setL (S.take 0)))] = some (.x 0, [.str (sB (123 :: setL S))]) := by
    refine loop_run (fun k => [.int ((k : Nat) : Int), .list (S.map PV.int), .str (sB (123 :: setL (S.take k)))]) S.length (fun k hk => ?_) (Evt.all fun n => ?_) (by decide)
    · refine (digS (rng_at hr hk).1 (rng_at hr hk).2).mp fun n hd => ?_
      have h1 := itoa_len (rng_at hr hk).1 (rng_at hr hk).2
      have h2 := setL_len (rng_take hr k)
      have h3 : (S.take k).length ≤ 1048576 := by simp; omega
      have e32 : (⟨#[32]⟩ : ByteArray) = sB [32] := rfl
      have c1 : ltI (k : Int) S.length = true := ltT (by omega)
      have c2 : geI (k : Int) 0 = true := geT (by omega)
      have w1 : IntKind.i64.wrap ((k : Int) + 1) = ((k + 1 : Nat) : Int) := by rw [wrap64 (by omega) (by omega)]; omega
      have hk' : ((k : Int)).toNat = k := by omega
      have e0 := setL_succ hk
      by_cases h0 : k = 0
      · subst h0
        have c3 : gtI ((0 : Nat) : Int) 0 = false := gtF (by omega)
        have c4' : ((sB (123 :: setL (S.take 0) ++ Lib.itoa (S.getD 0 0))).size : Int) ≤ 9223372036854775807 := by simp only [size_sB, List.length_append, List.length_cons, List.length_nil]; omega
        have e1 : 123 :: setL (S.take 0) ++ Lib.itoa (S.getD 0 0) = 123 :: setL (S.take 1) := by rw [e0, if_pos rfl]; simp [setL, Lib.join_nil]
        have c4 := leT (e1 ▸ c4')
        simp only [L36_0, nth_0, nth_1, nth_2, toInt_int, toList_list, hlen, c1, iff_true', c3, iff_false', thenN_n, c2, hk', nth_int hk, hd, Option.bind_some, dgB, toStr_str, catB_sB, c4, w1, e1]
      · have c3 : gtI (k : Int) 0 = true := gtT (by omega)
        have c4 : leI ((sB (123 :: setL (S.take k) ++ [32])).size : Int) 9223372036854775807 = true := leT (by simp only [size_sB, List.length_append, List.length_cons, List.length_nil]; omega)
        have c5' : ((sB (123 :: setL (S.take k) ++ [32] ++ Lib.itoa (S.getD k 0))).size : Int) ≤ 9223372036854775807 := by simp only [size_sB, List.length_append, List.length_cons, List.length_nil]; omega
        have e1 : 123 :: setL (S.take k) ++ [32] ++ Lib.itoa (S.getD k 0) = 123 :: setL (S.take (k + 1)) := by rw [e0, if_neg h0]; simp
        have c5 := leT (e1 ▸ c5')
        simp only [L36_0, nth_0, nth_1, nth_2, toInt_int, toList_list, hlen, c1, iff_true', c3, thenN_n, c2, hk', nth_int hk, hd, Option.bind_some, dgB, toStr_str, e32, catB_sB, c4, c5, w1, e1]
    · have c1 : ltI (S.length : Int) S.length = false := ltF (by omega)
      simp only [L36_0, nth_0, nth_1, nth_2, toInt_int, toList_list, hlen, c1, iff_false', List.take_length]
  refine Is.of e36 (hloop.mp fun n h => ?_)
  have e123 : (⟨#[123]⟩ : ByteArray) = sB (123 :: setL (S.take 0)) := by simp [setL, Lib.join_nil, sB]
  have e125 : (⟨#[125]⟩ : ByteArray) = sB [125] := rfl
  have h2 := setL_len hr
  have c4 : leI ((sB (123 :: (setL S ++ [125]))).size : Int) 9223372036854775807 = true := leT (by simp only [size_sB, List.length_append, List.length_cons, List.length_nil]; omega)
  simp only [F36, nth_0, e123]
  have h' : loopEv (L36_0 (ev Tryd.prog sg n) n) n [.int (0 : Int), .list (S.map PV.int), .str (sB (123 :: setL (S.take 0)))] = some (.x 0, [.str (sB (123 :: setL S))]) := h
  simp only [h', thenE_some, passB_same, thenN_n, nth_0, toStr_str, e125, catB_sB, c4, iff_true', setP, List.cons_append]
/-- Join of what is listed. -/
theorem joinO {L : List (List UInt8)} {sep : List UInt8} (hl : L.length ≤ 140737488355328) (hj : (Lib.join L sep).length ≤ 140737488355328) : Rn 43 [.list (L.map fun x => .str (sB x)), .str (sB sep)] [.str (sB (Lib.join L sep)), .list (L.map fun x => .str (sB x))] := by
  refine orc_is (s := joinSig 9) rfl rfl ?_
  show (if (Nat.ble (L.map fun x => PV.str (sB x)).length 140737488355328 && Nat.ble (Lib.join (strsL (.list (L.map fun x => .str (sB x)))) (sB sep).data.toList).length 140737488355328) = true then some [PV.str (sB (Lib.join (strsL (.list (L.map fun x => .str (sB x)))) (sB sep).data.toList)), _] else none) = _
  rw [strsL_sB, toList_sB, if_pos]
  simp only [Bool.and_eq_true, List.length_map]
  exact ⟨Nat.ble_eq_true_of_le hl, Nat.ble_eq_true_of_le hj⟩
theorem setI {S : List Int} (hr : rng S) (hl : S.length ≤ 1048576) : Rn 39 [.list (S.map PV.int)] [setP S] := by
  have hlen : ((S.map PV.int).length : Int) = S.length := by simp
  have hloop : Evt fun n => loopEv (L39_0 (ev Tryd.prog sg n) n) n [.int ((0 : Nat) : Int), .int S.length, .list (S.map PV.int), .list ((S.take 0).map dgB)] = some (.x 0, [.list (S.map dgB)]) := by
    refine loop_run (fun k => [.int ((k : Nat) : Int), .int S.length, .list (S.map PV.int), .list ((S.take k).map dgB)]) S.length (fun k hk => ?_) (Evt.all fun n => ?_) (by decide)
    · refine (digI (rng_at hr hk).1 (rng_at hr hk).2).mp fun n hd => ?_
      have c1 : ltI (k : Int) S.length = true := ltT (by omega)
      have c2 : geI (k : Int) 0 = true := geT (by omega)
      have w1 : IntKind.i64.wrap ((k : Int) + 1) = ((k + 1 : Nat) : Int) := by rw [wrap64 (by omega) (by omega)]; omega
      have hk' : ((k : Int)).toNat = k := by omega
      have c4 : leN (((S.take k).map dgB).length + [dgB (S.getD k 0)].length) 8796093022208 = true := leNT (by simp; omega)
      have e1 : (S.take k).map dgB ++ [dgB (S.getD k 0)] = (S.take (k + 1)).map dgB := by
        rw [List.take_add_one, List.getElem?_eq_getElem hk, List.map_append]
        congr 1
        simp [List.getD_eq_getElem?_getD, hk]
      simp only [L39_0, nth_0, nth_1, nth_2, nth_3, toInt_int, toList_list, hlen, c1, iff_true', c2, hk', nth_int hk, hd, Option.bind_some, c4, w1, e1]
    · have c1 : ltI (S.length : Int) S.length = false := ltF (by omega)
      simp only [L39_0, nth_0, nth_1, nth_2, nth_3, toInt_int, toList_list, hlen, c1, iff_false', List.take_length]
  have h2 := setL_len hr
  have hj := joinO (L := S.map Lib.itoa) (sep := [32]) (by simp; omega) (by show (setL S).length ≤ _; omega)
  have hm : (S.map Lib.itoa).map (fun x => PV.str (sB x)) = S.map dgB := by simp [dgB, Function.comp_def]
  rw [hm] at hj
  refine Is.of e39 (hloop.mp2 hj fun n h h3 => ?_)
  have e32 : (⟨#[32]⟩ : ByteArray) = sB [32] := rfl
  have e123 : (⟨#[123]⟩ : ByteArray) = sB [123] := rfl
  have e125 : (⟨#[125]⟩ : ByteArray) = sB [125] := rfl
  have c3 : leI ((sB ([123] ++ Lib.join (S.map Lib.itoa) [32])).size : Int) 9223372036854775807 = true := leT (by have : (Lib.join (S.map Lib.itoa) [32]).length ≤ 22 * S.length := h2; simp only [size_sB, List.length_append, List.length_cons, List.length_nil]; omega)
  have c4 : leI ((sB ([123] ++ Lib.join (S.map Lib.itoa) [32] ++ [125])).size : Int) 9223372036854775807 = true := leT (by have : (Lib.join (S.map Lib.itoa) [32]).length ≤ 22 * S.length := h2; simp only [size_sB, List.length_append, List.length_cons, List.length_nil]; omega)
  have h' : loopEv (L39_0 (ev Tryd.prog sg n) n) n [.int (0 : Int), .int S.length, .list (S.map PV.int), .list []] = some (.x 0, [.list (S.map dgB)]) := h
  simp only [F39, nth_0, toList_list, hlen, h', thenE_some, passB_same, thenN_n, e32, h3, Option.bind_some, toStr_str, e123, e125, catB_sB, c3, c4, iff_true', setP]
  rfl
/-! ### Lists of texts -/
def txts (T : List (List UInt8)) : List PV := T.map fun x => .str (sB x)
theorem pickT {Q : PV → List UInt8 → Prop} : ∀ l : List PV, (∀ q, q ∈ l → ∃ t, Q q t ∧ t.length ≤ 32 * q.wt + 24) → ∃ T : List (List UInt8), T.length = l.length ∧ (∀ k, k < l.length → Q (nth l k) (T.getD k [])) ∧ Lib.lens T ≤ 32 * PV.wts l + 24 * l.length
  | [], _ => ⟨[], rfl, fun k hk => by simp at hk, by simp [Lib.lens]⟩
  | q :: l, h => by
    obtain ⟨t, h1, h2⟩ := h q (by simp)
    obtain ⟨T, e1, e2, e3⟩ := pickT l fun x hx => h x (by simp [hx])
    refine ⟨t :: T, by simp [e1], fun k hk => ?_, ?_⟩
    · cases k with
      | zero => exact h1
      | succ k => exact e2 k (by simpa using hk)
    · simp only [Lib.lens, List.map_cons, List.sum_cons, wts_cons, List.length_cons] at *
      omega
theorem joinT_len (T : List (List UInt8)) : (Lib.join T [32]).length ≤ Lib.lens T + T.length := by
  cases T with
  | nil => simp [Lib.join_nil]
  | cons x r => rw [Lib.join_length]; simp; omega
theorem joinT_take (T : List (List UInt8)) (k : Nat) : (Lib.join (T.take k) [32]).length ≤ Lib.lens T + T.length := by
  have h1 := joinT_len (T.take k)
  have h2 := Lib.lens_take_le T k
  have h3 : (T.take k).length ≤ T.length := by rw [List.length_take]; omega
  omega
theorem lens_at {T : List (List UInt8)} {k : Nat} (h : k < T.length) : (T.getD k []).length ≤ Lib.lens T := by
  have h1 := Lib.lens_take_succ T k (T.getD k []) (by simp [List.getD_eq_getElem?_getD, h])
  have h2 := Lib.lens_take_le T (k + 1)
  omega
theorem joinT_succ {T : List (List UInt8)} {k : Nat} (h : k < T.length) : Lib.join (T.take (k + 1)) [32] = (if k = 0 then [] else Lib.join (T.take k) [32] ++ [32]) ++ T.getD k [] := by
  have e : T.take (k + 1) = T.take k ++ [T.getD k []] := by
    rw [List.take_add_one, List.getElem?_eq_getElem h]
    simp [List.getD_eq_getElem?_getD, h]
  rw [e]
  by_cases h0 : k = 0
  · subst h0
    simp [Lib.join_one]
  · rw [if_neg h0, join_snoc]
    intro hn
    have := congrArg List.length hn
    rw [List.length_take, List.length_nil] at this
    omega
end Go.Proofs.YtjaboelhknoamaaDoor.GFnExactStxText
