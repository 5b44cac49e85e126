/- What functions of the program and of the reference come to, for the law FnExactGen. Each under the conditions that it names. -/
import Derived.Test.YtijgokehlicmnaaCFnExactGen
namespace Go.Proofs.Ytijgokehlicmnaa.GFnExactGen
open Go Go.Rsc Go.Proofs.Ytijgokehlicmnaa
set_option maxRecDepth 100000
set_option linter.unusedVariables false
set_option linter.unusedSimpArgs false
/-! ### A node with all that is below it -/
def sumN (f : Nat → Nat) : Nat → Nat
  | 0 => 0
  | k + 1 => sumN f k + f k
theorem sumN_mono (f : Nat → Nat) : ∀ {i j : Nat}, i ≤ j → sumN f i ≤ sumN f j
  | i, 0, h => by have : i = 0 := by omega
                  subst this; exact Nat.le_refl _
  | i, j + 1, h => by
    by_cases e : i = j + 1
    · subst e; exact Nat.le_refl _
    · have := sumN_mono f (i := i) (j := j) (by omega); simp only [sumN]; omega
theorem sumN_wts {ks : List PV} {f : Nat → Nat} : ∀ k, k ≤ ks.length → (∀ i, i < k → f i ≤ 1 + (nth ks i).wt) → sumN f k ≤ k + PV.wts (ks.take k)
  | 0, _, _ => by simp [sumN]
  | k + 1, hk, h => by
    have ih := sumN_wts k (by omega) fun i hi => h i (by omega)
    have h0 := h k (by omega)
    have e := take_nth (l := ks) (i := k) (by omega)
    rw [e, wts_append]
    simp only [sumN, wts_cons, wts_nil]
    omega
/-- A node that is right, with all below it. -/
inductive GoodIr (l : List PV) (at_ : Nat) : Int → Nat → PV → Prop
  | mk {op n : Int} {ks : List PV} {deep : Int} (sf : Nat → Nat) : arB op ks.length = true → rtB l at_ op n ks.length deep = true → (∀ i, i < ks.length → 1 ≤ sf i) → (∀ i, i < ks.length → GoodIr l at_ (deep + bit op i) (sf i) (nth ks i)) → GoodIr l at_ deep (1 + sumN sf ks.length) (.agg [.int op, .int n, .list ks])
structure RightAt (l : List PV) (at_ : Nat) (x : PV) (s : Nat) (b : Int → Bool) : Prop where
  pos : 1 ≤ s
  le : s ≤ 1 + x.wt
  size : Rn 177 [x] [.int s]
  spec : ∀ deep : Int, 0 ≤ deep → deep + x.wt ≤ 4000000 → Rn 178 [.list l, .int at_, x, .int deep] [.bool (b deep)]
  yes : ∀ deep left : Int, 0 ≤ deep → deep + x.wt ≤ 4000000 → 0 ≤ left → left ≤ 4000 → s ≤ left → b deep = true → Rn 181 [ck l at_ left, x, .int deep] [.bool true, ck l at_ (left - s)]
  no : ∀ deep left : Int, 0 ≤ deep → deep + x.wt ≤ 4000000 → 0 ≤ left → left ≤ 4000 → ¬ (s ≤ left ∧ b deep = true) → ∃ c, Rn 181 [ck l at_ left, x, .int deep] [.bool false, c]
  good : ∀ deep, b deep = true → GoodIr l at_ deep s x
section
variable {l ks : List PV} {at_ : Nat} {op n deep : Int}
theorem bit_is (op : Int) (i : Nat) : selB (eqI op 7) (selB (eqI op 7 == true) (.bool (eqI (selB (eqI op 7 == true) (.int i) .unit).toInt 1)) .unit) (.bool false) = .bool (decide (op = 7 ∧ i = 1)) := by
  by_cases h : op = 7
  · subst h
    by_cases h2 : i = 1
    · subst h2; rfl
    · have : eqI (i : Int) 1 = false := eqF (by omega)
      simp [eqT, this, h2]
  · simp [eqF h, h]
theorem is111 (b : Bool) : Rn 193 [.bool b] [.int (if b then 1 else 0)] :=
  Is.of e193 (Evt.all fun n => by cases b <;> simp [F193])
theorem bit_if (op : Int) (i : Nat) : (if decide (op = 7 ∧ i = 1) = true then (1 : Int) else 0) = bit op i := by
  simp [bit]
variable {sf : Nat → Nat} {bf : Nat → Int → Bool}
theorem size_loop (hk : ks.length ≤ 2000000) (hw : PV.wts ks ≤ 2000000) (hr : ∀ i, i < ks.length → RightAt l at_ (nth ks i) (sf i) (bf i)) : Rn 177 [.agg [.int op, .int n, .list ks]] [.int (1 + sumN sf ks.length : Nat)] := by
  have h := loop_run (body := fun k => L177_0 (ev Try.prog sg k) k) (e := .x 0) (res := [.int (1 + sumN sf ks.length : Nat)]) (fun i => [.int i, .int (1 + sumN sf i : Nat), .agg [.int op, .int n, .list ks]]) ks.length (fun i hi => ?_) (Evt.all fun k => ?_) (by simp)
  · refine Is.of e177 (h.mp fun k q => ?_)
    simp [sumN] at q
    simp [F177, q]
  · refine (hr i hi).size.mp fun k q => ?_
    have hb := sumN_wts (ks := ks) (f := sf) (i + 1) (by omega) fun j hj => (hr j (by omega)).le
    have hb2 := wts_take ks (i + 1)
    simp only [sumN] at hb
    simp (disch := omega) [L177_0, ltT, geT, q, wrap64, sumN]
    omega
  · simp (disch := omega) [L177_0, ltF]
theorem bit_01 (op : Int) (i : Nat) : 0 ≤ bit op i ∧ bit op i ≤ 1 := by unfold bit; split <;> omega
theorem kid_wt {i : Nat} (hi : i < ks.length) : (nth ks i).wt ≤ PV.wts ks := wt_mem (nth_mem hi)
def kidsB (bf : Nat → Int → Bool) (op deep : Int) (len : Nat) : Bool := (List.range len).all fun i => bf i (deep + bit op i)
theorem spec_loop (hd : 0 ≤ deep) (hw : deep + (ks.length + PV.wts ks : Nat) ≤ 4000000) (hr : ∀ i, i < ks.length → RightAt l at_ (nth ks i) (sf i) (bf i)) :
    Evt fun k => loopEv (L178_0 (ev Try.prog sg k) k) k [.int 0, .int deep, .int at_, .list l, .agg [.int op, .int n, .list ks]] = if kidsB bf op deep ks.length then some (.x 0, [.int deep, .int at_, .list l, .agg [.int op, .int n, .list ks]]) else some (.r, [.bool false]) := by
  refine all_loop (body := fun k => L178_0 (ev Try.prog sg k) k) (pay := fun i => [.int i, .int deep, .int at_, .list l, .agg [.int op, .int n, .list ks]]) (c := fun i => bf i (deep + bit op i)) (e1 := .x 0) (r1 := [.int deep, .int at_, .list l, .agg [.int op, .int n, .list ks]]) (e2 := .r) (r2 := [.bool false]) ks.length (by simp) (by simp) (fun i hi hc => ?_) (fun i hi hc => ?_) (Evt.all fun k => ?_)
  · have hb := bit_01 op i
    have hwt := kid_wt hi
    refine (is111 (decide (op = 7 ∧ i = 1))).mp2 ((hr i hi).spec (deep + bit op i) (by omega) (by push_cast at hw; omega)) fun k q1 q2 => ?_
    rw [bit_if] at q1
    rw [hc] at q2
    have hw1 : IntKind.i64.wrap (deep + bit op i) = deep + bit op i := wrap64 (by omega) (by omega)
    simp (disch := omega) only [L178_0, nth_0, nth_1, nth_2, nth_3, nth_4, fld_agg, toInt_int, toList_list, toBool_bool, ltT, geT, iff_true', iff_false', Int.toNat_natCast, bit_is, q1, q2, hw1, wrap64, Option.bind_some, Bool.not_true]
    simp
  · have hb := bit_01 op i
    have hwt := kid_wt hi
    refine (is111 (decide (op = 7 ∧ i = 1))).mp2 ((hr i hi).spec (deep + bit op i) (by omega) (by push_cast at hw; omega)) fun k q1 q2 => ?_
    rw [bit_if] at q1
    rw [hc] at q2
    have hw1 : IntKind.i64.wrap (deep + bit op i) = deep + bit op i := wrap64 (by omega) (by omega)
    simp (disch := omega) only [L178_0, nth_0, nth_1, nth_2, nth_3, nth_4, fld_agg, toInt_int, toList_list, toBool_bool, ltT, geT, iff_true', iff_false', Int.toNat_natCast, bit_is, q1, q2, hw1, Option.bind_some, Bool.not_false]
  · simp (disch := omega) [L178_0, ltF]
theorem impl_loop (hd : 0 ≤ deep) (hw : deep + (ks.length + PV.wts ks : Nat) ≤ 4000000) (hr : ∀ i, i < ks.length → RightAt l at_ (nth ks i) (sf i) (bf i)) : ∀ (j i : Nat) (left : Int), i + j = ks.length → 0 ≤ left → left ≤ 4000 →
    (((sumN sf ks.length : Int) - sumN sf i ≤ left ∧ ∀ k, i ≤ k → k < ks.length → bf k (deep + bit op k) = true) →
      Evt fun N => ∀ m, j + 1 ≤ m → loopEv (L181_0 (ev Try.prog sg N) N) m [.int i, .int ks.length, .list ks, .int deep, .agg [.int op, .int n, .list ks], ck l at_ left] = some (.x 1, [ck l at_ (left - (sumN sf ks.length - sumN sf i))])) ∧
    (¬ ((sumN sf ks.length : Int) - sumN sf i ≤ left ∧ ∀ k, i ≤ k → k < ks.length → bf k (deep + bit op k) = true) →
      ∃ c, Evt fun N => ∀ m, j + 1 ≤ m → loopEv (L181_0 (ev Try.prog sg N) N) m [.int i, .int ks.length, .list ks, .int deep, .agg [.int op, .int n, .list ks], ck l at_ left] = some (.r, [c, .bool false]))
  | 0, i, left, hi, h1, h2 => by
    have e : i = ks.length := by omega
    subst e
    refine ⟨fun _ => Evt.all fun N m hm => ?_, fun h => absurd ⟨by omega, fun k h1 h2 => by omega⟩ h⟩
    obtain ⟨m, rfl⟩ : ∃ m', m = m' + 1 := ⟨m - 1, by omega⟩
    have hB : L181_0 (ev Try.prog sg N) N [.int ks.length, .int ks.length, .list ks, .int deep, .agg [.int op, .int n, .list ks], ck l at_ left] = some (.x 1, [ck l at_ left]) := by simp (disch := omega) [L181_0, ltF]
    simp only [loopEv, hB, thenN_x, passE_eq]
    simp
  | j + 1, i, left, hi, h1, h2 => by
    have hlt : i < ks.length := by omega
    have hR := hr i hlt
    have hb := bit_01 op i
    have hwt := kid_wt hlt
    have hsum : sumN sf (i + 1) = sumN sf i + sf i := rfl
    have hmono := sumN_mono sf (i := i + 1) (j := ks.length) (by omega)
    have hbound : deep + bit op i + (nth ks i).wt ≤ 4000000 := by push_cast at hw; omega
    have hbody : ∀ (N : Nat) (r : List PV), ev Try.prog sg N 181 [ck l at_ left, nth ks i, .int (deep + bit op i)] = some r →
        L181_0 (ev Try.prog sg N) N [.int i, .int ks.length, .list ks, .int deep, .agg [.int op, .int n, .list ks], ck l at_ left] = iff (!(nth r 0).toBool) (some (Ex.r, [nth r 1, .bool false])) (some (Ex.n, [.int (i + 1 : Nat), .int ks.length, .list ks, .int deep, .agg [.int op, .int n, .list ks], nth r 1])) := fun N r q => by
      have hw1 : IntKind.i64.wrap (deep + 1) = deep + 1 := wrap64 (by omega) (by omega)
      by_cases h7 : op = 7 ∧ i = 1
      · have e : bit op i = 1 := by simp [bit, h7]
        rw [e] at q
        simp (disch := omega) only [L181_0, nth_0, nth_1, nth_2, nth_3, nth_4, nth_5, nth_6, nth_7, fld_agg, toInt_int, toList_list, toBool_bool, ltT, geT, iff_true', iff_false', Int.toNat_natCast, bit_is, decide_eq_true h7, hw1, thenN_n, q, Option.bind_some, wrap64]
        simp
      · have e : bit op i = 0 := by simp [bit, h7]
        rw [e, Int.add_zero] at q
        simp (disch := omega) only [L181_0, nth_0, nth_1, nth_2, nth_3, nth_4, nth_5, nth_6, nth_7, fld_agg, toInt_int, toList_list, toBool_bool, ltT, geT, iff_true', iff_false', Int.toNat_natCast, bit_is, decide_eq_false h7, thenN_n, q, Option.bind_some, wrap64]
        simp
    have hyes := hR.yes (deep + bit op i) left (by omega) hbound h1 h2
    have hno := hR.no (deep + bit op i) left (by omega) hbound h1 h2
    by_cases hc : (sf i : Int) ≤ left ∧ bf i (deep + bit op i) = true
    · have ih := impl_loop hd hw hr j (i + 1) (left - sf i) (by omega) (by omega) (by omega)
      have hy := hyes hc.1 hc.2
      have hiff : ((sumN sf ks.length : Int) - sumN sf i ≤ left ∧ ∀ k, i ≤ k → k < ks.length → bf k (deep + bit op k) = true) ↔ ((sumN sf ks.length : Int) - sumN sf (i + 1) ≤ left - sf i ∧ ∀ k, i + 1 ≤ k → k < ks.length → bf k (deep + bit op k) = true) := by
        refine ⟨fun ⟨a, b⟩ => ⟨by omega, fun k h3 h4 => b k (by omega) h4⟩, fun ⟨a, b⟩ => ⟨by omega, fun k h3 h4 => ?_⟩⟩
        by_cases e : k = i
        · subst e; exact hc.2
        · exact b k (by omega) h4
      refine ⟨fun h => ?_, fun h => ?_⟩
      · refine hy.mp2 (ih.1 (hiff.1 h)) fun N q1 q2 m hm => ?_
        obtain ⟨m, rfl⟩ : ∃ m', m = m' + 1 := ⟨m - 1, by omega⟩
        simp only [loopEv, hbody N _ q1, nth_0, nth_1, toBool_bool, Bool.not_true, iff_false', thenN_n]
        rw [q2 m (by omega)]
        have : left - (sf i : Int) - ((sumN sf ks.length : Int) - sumN sf (i + 1)) = left - ((sumN sf ks.length : Int) - sumN sf i) := by omega
        rw [this]
      · obtain ⟨c, hcc⟩ := ih.2 (fun x => h (hiff.2 x))
        refine ⟨c, hy.mp2 hcc fun N q1 q2 m hm => ?_⟩
        obtain ⟨m, rfl⟩ : ∃ m', m = m' + 1 := ⟨m - 1, by omega⟩
        simp only [loopEv, hbody N _ q1, nth_0, nth_1, toBool_bool, Bool.not_true, iff_false', thenN_n]
        exact q2 m (by omega)
    · obtain ⟨c, hcc⟩ := hno (fun x => hc ⟨x.1, x.2⟩)
      refine ⟨fun h => absurd ⟨by omega, h.2 i (Nat.le_refl _) hlt⟩ hc, fun _ => ⟨c, hcc.mp fun N q1 m hm => ?_⟩⟩
      obtain ⟨m, rfl⟩ : ∃ m', m = m' + 1 := ⟨m - 1, by omega⟩
      simp only [loopEv, hbody N _ q1, nth_0, nth_1, toBool_bool, Bool.not_false, iff_true', thenN_r, passE_eq]
end
def IrSh (W : PV → Prop) : Prop := ∀ x, W x → ∃ (op n : Int) (ks : List PV), x = .agg [.int op, .int n, .list ks] ∧ ∀ k, k ∈ ks → W k
theorem wt_ir (op n : Int) (ks : List PV) : (PV.agg [.int op, .int n, .list ks]).wt = ks.length + PV.wts ks := by simp
theorem size_ir {op n : Int} {ks : List PV} {k : PV} (h : k ∈ ks) : SizeOf.sizeOf k < SizeOf.sizeOf (PV.agg [.int op, .int n, .list ks]) := by
  have := size_mem h
  simp at this ⊢
  omega
/-- Both checks of a node see the same. -/
theorem right {W : PV → Prop} (hT : IrSh W) {l : List PV} {at_ : Nat} (hl : l.length ≤ 1048576) (hf : ∀ q, q ∈ l → ∃ (f : Int) (b : PV), q = .agg [.int f, b]) (ha : at_ < l.length) : ∀ (N : Nat) (x : PV), SizeOf.sizeOf x = N → W x → x.wt ≤ 1048576 → ∃ s b, RightAt l at_ x s b := by
  intro N
  induction N using Nat.strongRecOn with
  | ind N ih =>
  intro x hN hx hw
  subst hN
  obtain ⟨op, n, ks, rfl, hk⟩ := hT x hx
  rw [wt_ir] at hw
  have hkid : ∀ i : Nat, ∃ s : Nat, ∃ b : Int → Bool, i < ks.length → RightAt l at_ (nth ks i) s b := fun i => by
    by_cases hi : i < ks.length
    · have hm := nth_mem hi
      obtain ⟨s, b, h⟩ := ih _ (size_ir hm) _ rfl (hk _ hm) (by have := wt_mem hm; omega)
      exact ⟨s, b, fun _ => h⟩
    · exact ⟨0, fun _ => false, fun h => absurd h hi⟩
  obtain ⟨sf, hs⟩ := Classical.axiomOfChoice hkid
  obtain ⟨bf, hr⟩ := Classical.axiomOfChoice hs
  have hb := sumN_wts (ks := ks) (f := sf) ks.length (Nat.le_refl _) fun j hj => (hr j hj).le
  rw [List.take_length] at hb
  refine ⟨1 + sumN sf ks.length, fun deep => arB op ks.length && (kidsB bf op deep ks.length && rtB l at_ op n ks.length deep), ?_⟩
  refine ⟨by omega, by rw [wt_ir]; omega, size_loop (by omega) (by omega) hr, fun deep hd hdw => ?_, fun deep left hd hdw h1 h2 hle hbt => ?_, fun deep left hd hdw h1 h2 hno => ?_, fun deep hg => ?_⟩
  · rw [wt_ir] at hdw
    exact node90 hl hf ha (spec_loop hd hdw hr)
  · rw [wt_ir] at hdw
    simp only [Bool.and_eq_true] at hbt
    obtain ⟨b1, b2, b3⟩ := hbt
    push_cast at hle
    have hloop := (impl_loop (n := n) hd hdw hr ks.length 0 (left - 1) (by omega) (by omega) (by omega)).1 ⟨by simp only [sumN]; omega, fun k _ hk => List.all_eq_true.1 b2 k (by simpa using hk)⟩
    have e : left - 1 - ((sumN sf ks.length : Int) - (sumN sf 0 : Int)) = left - (1 + sumN sf ks.length : Nat) := by simp only [sumN]; push_cast; omega
    rw [e] at hloop
    refine Is.of e181 ((node93_eq (n := n) (deep := deep) hl ha (by omega) h2 b1).mp2 (hloop.and (Evt.ge (ks.length + 1))) fun k q1 q2 => ?_)
    have q3 : loopEv (L181_0 (ev Try.prog sg k) k) k [.int 0, .int ks.length, .list ks, .int deep, .agg [.int op, .int n, .list ks], ck l at_ (left - 1)] = _ := q2.1 k q2.2
    rw [q1, b3, q3]
    simp
  · rw [wt_ir] at hdw
    by_cases c0 : left = 0 ∨ arB op ks.length = false
    · exact ⟨_, node93_no h1 h2 c0⟩
    have c1 : left ≠ 0 := fun h => c0 (.inl h)
    have c2 : arB op ks.length = true := by cases h : arB op ks.length <;> simp_all
    cases b3 : rtB l at_ op n ks.length deep with
    | false =>
      refine ⟨ck l at_ (left - 1), Is.of e181 ((node93_eq (n := n) (deep := deep) hl ha (by omega) h2 c2).mp fun k q1 => ?_)⟩
      rw [q1, b3]
      rfl
    | true =>
      have hnot : ¬ ((sumN sf ks.length : Int) - sumN sf 0 ≤ left - 1 ∧ ∀ k, 0 ≤ k → k < ks.length → bf k (deep + bit op k) = true) := fun ⟨a, b⟩ => hno ⟨by simp only [sumN] at a; push_cast; omega, by
        have : kidsB bf op deep ks.length = true := List.all_eq_true.2 fun k hk => b k (Nat.zero_le _) (by simpa using hk)
        simp only [c2, this, b3, Bool.and_self]⟩
      obtain ⟨c, hloop⟩ := (impl_loop (n := n) hd hdw hr ks.length 0 (left - 1) (by omega) (by omega) (by omega)).2 hnot
      refine ⟨c, Is.of e181 ((node93_eq (n := n) (deep := deep) hl ha (by omega) h2 c2).mp2 (hloop.and (Evt.ge (ks.length + 1))) fun k q1 q2 => ?_)⟩
      have q3 : loopEv (L181_0 (ev Try.prog sg k) k) k [.int 0, .int ks.length, .list ks, .int deep, .agg [.int op, .int n, .list ks], ck l at_ (left - 1)] = _ := q2.1 k q2.2
      rw [q1, b3, q3]
      simp
  · simp only [Bool.and_eq_true] at hg
    exact .mk sf hg.1 hg.2.2 (fun i hi => (hr i hi).pos) fun i hi => (hr i hi).good _ (List.all_eq_true.1 hg.2.1 i (by simpa using hi))
/-! ### BlocksOk -/
def BlkSh (W : PV → Prop) (q : PV) : Prop := ∃ (f : Int) (b : PV), q = .agg [.int f, b] ∧ W b ∧ b.wt ≤ 1048576
theorem blocks {W : PV → Prop} (hT : IrSh W) {l : List PV} (hl : l.length ≤ 1048576) (hb : ∀ q, q ∈ l → BlkSh W q) : ∃ (b : Bool), (Rn 139 [.list l] [.bool b] ∧ Rn 135 [.list l] [.bool b]) ∧
    (b = true → okR l.length 1 60 = true ∧ frB l 0 = 0 ∧ ∀ i, i < l.length → 0 ≤ frB l i ∧ ∃ s bb, RightAt l i ((nth l i).fld 1) s bb ∧ s ≤ 4000 ∧ bb 1 = true) := by
  have hf : ∀ q, q ∈ l → ∃ (f : Int) (b : PV), q = .agg [.int f, b] := fun q hq => let ⟨f, b, e, _⟩ := hb q hq; ⟨f, b, e⟩
  have hkid : ∀ i : Nat, ∃ s : Nat, ∃ b : Int → Bool, i < l.length → RightAt l i ((nth l i).fld 1) s b := fun i => by
    by_cases hi : i < l.length
    · obtain ⟨f, b, e, hw, hwt⟩ := hb _ (nth_mem hi)
      obtain ⟨s, bb, h⟩ := right hT hl hf hi _ b rfl hw hwt
      exact ⟨s, bb, fun _ => by rw [e]; exact h⟩
    · exact ⟨0, fun _ => false, fun h => absurd h hi⟩
  obtain ⟨sf, hs⟩ := Classical.axiomOfChoice hkid
  obtain ⟨bf, hr⟩ := Classical.axiomOfChoice hs
  let c : Nat → Bool := fun i => !(ltI (frB l i) 0) && (leN (sf i) 4000 && bf i 1)
  have hI := all_loop (body := fun k => L139_0 (ev Try.prog sg k) k) (pay := fun i => [.int i, .int l.length, .list l, .list l]) (c := c) (e1 := .x 0) (r1 := []) (e2 := .r) (r2 := [.bool false]) l.length (by simp) (by simp) (fun i hi hc => ?_) (fun i hi hc => ?_) (Evt.all fun k => ?_)
  have hS := all_loop (body := fun k => L135_0 (ev Try.prog sg k) k) (pay := fun i => [.int i, .list l]) (c := c) (e1 := .x 0) (r1 := [.list l]) (e2 := .r) (r2 := [.bool false]) l.length (by simp) (by simp) (fun i hi hc => ?_) (fun i hi hc => ?_) (Evt.all fun k => ?_)
  · simp only [show ((0 : Nat) : Int) = 0 from rfl] at hI hS
    have h54 := is54 l.length 1 60
    have h51 := is51 l.length 1 60
    refine ⟨(List.range l.length).all c && (okR l.length 1 60 && eqI (frB l 0) 0), ⟨?_, ?_⟩, fun h => ?_⟩
    · cases h1 : okR l.length 1 60 with
      | false =>
        rw [h1] at h54
        simp only [Bool.false_and, Bool.and_false]
        exact Is.of e139 (h54.mp fun k q1 => by simp [F139, q1])
      | true =>
        rw [h1] at h54
        have hr1 := okR_in h1
        obtain ⟨f, b, e, hw, hwt⟩ := hb _ (nth_mem (i := 0) (l := l) (by omega))
        have hfe : frB l 0 = f := by simp [frB, e]
        rw [hfe, Bool.true_and]
        by_cases h2 : f = 0
        · rw [eqT h2, Bool.and_true]
          refine Is.of e139 (h54.mp2 hI fun k q1 q2 => ?_)
          cases ha : (List.range l.length).all c <;> simp only [ha, Bool.false_eq_true, if_false, if_true] at q2 <;>
            simp (disch := omega) [F139, q1, q2, ltT, geT, e, neF]
        · rw [eqF h2, Bool.and_false]
          exact Is.of e139 (h54.mp fun k q1 => by simp (disch := omega) [F139, q1, ltT, geT, e, neT])
    · refine Is.of e135 (hS.mp2 h51 fun k q1 q2 => ?_)
      cases ha : (List.range l.length).all c with
      | false =>
        simp only [ha, Bool.false_eq_true, if_false] at q1
        simp [F135, q1]
      | true =>
        simp only [ha, if_true] at q1
        cases h1 : okR l.length 1 60 with
        | false =>
          rw [h1] at q2
          simp [F135, q1, q2]
        | true =>
          rw [h1] at q2
          have hr1 := okR_in h1
          obtain ⟨f, b, e, hw, hwt⟩ := hb _ (nth_mem (i := 0) (l := l) (by omega))
          have hfe : frB l 0 = f := by simp [frB, e]
          simp (disch := omega) [F135, q1, q2, ltT, geT, e, hfe]
    · simp only [Bool.and_eq_true] at h
      obtain ⟨ha, h1, h2⟩ := h
      refine ⟨h1, by simpa [eqI] using h2, fun i hi => ?_⟩
      have hc := List.all_eq_true.1 ha i (by simpa using hi)
      simp only [c, Bool.and_eq_true, Bool.not_eq_true'] at hc
      obtain ⟨c1, c2, c3⟩ := hc
      exact ⟨by simpa [ltI] using c1, sf i, bf i, hr i hi, by simpa [leN] using c2, c3⟩
  · obtain ⟨f, b, e, hw, hwt⟩ := hb _ (nth_mem hi)
    have hR := hr i hi
    have hfe : frB l i = f := by simp [frB, e]
    rw [e] at hR
    simp only [fld_agg, nth_1] at hR
    simp only [c, hfe, Bool.and_eq_true, Bool.not_eq_true'] at hc
    obtain ⟨c1, c2, c3⟩ := hc
    have c2' : sf i ≤ 4000 := by simpa [leN] using c2
    refine hR.size.mp2 (hR.spec 1 (by omega) (by omega)) fun k q1 q2 => ?_
    rw [c3] at q2
    simp (disch := omega) [L135_0, ltT, geT, e, c1, q1, q2, gtF, wrap64]
  · obtain ⟨f, b, e, hw, hwt⟩ := hb _ (nth_mem hi)
    have hR := hr i hi
    have hfe : frB l i = f := by simp [frB, e]
    rw [e] at hR
    simp only [fld_agg, nth_1] at hR
    simp only [c, hfe] at hc
    refine hR.size.mp2 (hR.spec 1 (by omega) (by omega)) fun k q1 q2 => ?_
    cases c1 : ltI f 0 with
    | true => simp (disch := omega) [L135_0, ltT, geT, e, c1]
    | false =>
    rw [c1] at hc
    by_cases c2 : sf i ≤ 4000
    · have c3 : bf i 1 = false := by simpa [leN, c2] using hc
      rw [c3] at q2
      simp (disch := omega) [L135_0, ltT, geT, e, c1, q1, q2, gtF]
    · simp (disch := omega) [L135_0, ltT, geT, e, c1, q1, gtT]
  · simp (disch := omega) [L135_0, ltF]
  · obtain ⟨f, b, e, hw, hwt⟩ := hb _ (nth_mem hi)
    have hR := hr i hi
    have hfe : frB l i = f := by simp [frB, e]
    rw [e] at hR
    simp only [fld_agg, nth_1] at hR
    simp only [c, hfe, Bool.and_eq_true, Bool.not_eq_true'] at hc
    obtain ⟨c1, c2, c3⟩ := hc
    have c2' : sf i ≤ 4000 := by simpa [leN] using c2
    refine (hR.yes 1 4000 (by omega) (by omega) (by omega) (by omega) (by omega) c3).mp fun k q1 => ?_
    simp (disch := omega) [L139_0, ltT, geT, e, c1, q1, wrap64]
  · obtain ⟨f, b, e, hw, hwt⟩ := hb _ (nth_mem hi)
    have hR := hr i hi
    have hfe : frB l i = f := by simp [frB, e]
    rw [e] at hR
    simp only [fld_agg, nth_1] at hR
    simp only [c, hfe] at hc
    cases c1 : ltI f 0 with
    | true => exact Evt.all fun k => by simp (disch := omega) [L139_0, ltT, geT, e, c1]
    | false =>
    rw [c1] at hc
    obtain ⟨ch, hno⟩ := hR.no 1 4000 (by omega) (by omega) (by omega) (by omega) (fun ⟨a, b⟩ => by
      have : sf i ≤ 4000 := by omega
      simp [leN, this, b] at hc)
    refine hno.mp fun k q1 => ?_
    simp (disch := omega) [L139_0, ltT, geT, e, c1, q1]
  · simp (disch := omega) [L139_0, ltF]
/-! ### What is made of a node -/
def OpV (o : PV) : Prop := ∃ c n m : Int, o = .agg [.int c, .int n, .int m] ∧ (-9223372036854775808 ≤ c ∧ c < 9223372036854775808) ∧ (-9223372036854775808 ≤ n ∧ n < 9223372036854775808) ∧ (-9223372036854775808 ≤ m ∧ m < 9223372036854775808)
abbrev intsG (l : List Int) : PV := .list (l.map PV.int)
theorem putI {out : List PV} (h : out.length ≤ 4000000) (sl c n m : PV) : Rn 141 [.agg [.list out, sl], c, n, m] [.agg [.list (out ++ [.agg [c, n, m]]), sl]] :=
  Is.of e141 (Evt.all fun k => by simp (disch := omega) [F141, leNT])
theorem putS {out : List PV} (h : out.length ≤ 4000000) (c n m : PV) : Rn 137 [.agg [.list out], c, n, m] [.int out.length, .agg [.list (out ++ [.agg [c, n, m]])]] :=
  Is.of e137 (Evt.all fun k => by simp (disch := omega) [F137, leNT, wrap64])
structure Made (x : PV) (s : Nat) (out out' : List PV) (sl : List Int) (d : Int) : Prop where
  le : out'.length ≤ out.length + 3 * s
  ge : out.length ≤ out'.length
  ops : ∀ o, o ∈ out' → OpV o
  spec : Rn 136 [.agg [.list out], x, intsG sl, .int d] [.agg [.list out']]
  impl : Rn 140 [.agg [.list out, intsG sl], x, .int d] [.agg [.list out', intsG sl]]
def GenAt (x : PV) (s : Nat) (deep : Int) : Prop := ∀ (out : List PV) (sl : List Int) (d : Int), (sl.length : Int) = deep → sl.length + s ≤ 100000 → (∀ v, v ∈ sl → 0 ≤ v ∧ v ≤ 100000) → 0 ≤ d → d + s ≤ 100000 → out.length + 3 * s ≤ 100000 → (∀ o, o ∈ out → OpV o) → ∃ out', Made x s out out' sl d
theorem sumN_ge {f : Nat → Nat} : ∀ k, (∀ i, i < k → 1 ≤ f i) → k ≤ sumN f k
  | 0, _ => Nat.zero_le _
  | k + 1, h => by
    have := sumN_ge k fun i hi => h i (by omega)
    have := h k (by omega)
    simp only [sumN]; omega
section
variable {ks : List PV} {op n : Int} {sf : Nat → Nat} {deep : Int}
theorem kids_loop (hp : ∀ i, i < ks.length → 1 ≤ sf i) (hg : ∀ i, i < ks.length → GenAt (nth ks i) (sf i) deep) {sl : List Int} {d : Int} (hs : (sl.length : Int) = deep) (hsl : sl.length + (1 + sumN sf ks.length) ≤ 100000) (hv : ∀ v, v ∈ sl → 0 ≤ v ∧ v ≤ 100000) (hd : 0 ≤ d) (hds : d + (1 + sumN sf ks.length : Nat) ≤ 100000) : ∀ (j i : Nat) (out : List PV), i + j = ks.length → out.length + 3 * (sumN sf ks.length - sumN sf i) ≤ 100000 → (∀ o, o ∈ out → OpV o) →
    ∃ out', out'.length ≤ out.length + 3 * (sumN sf ks.length - sumN sf i) ∧ out.length ≤ out'.length ∧ (∀ o, o ∈ out' → OpV o) ∧
      (Evt fun N => ∀ m, j + 1 ≤ m → loopEv (L136_0 (ev Try.prog sg N) N) m [.int i, .int d, intsG sl, .agg [.list out], .agg [.int op, .int n, .list ks]] = some (.x 1, [intsG sl, .agg [.list out'], .agg [.int op, .int n, .list ks]])) ∧
      (Evt fun N => ∀ m, j + 1 ≤ m → loopEv (L184_0 (ev Try.prog sg N) N) m [.int i, .int ks.length, .list ks, .int d, .agg [.list out, intsG sl]] = some (.x 0, [.agg [.list out', intsG sl]]))
  | 0, i, out, hi, ho, hops => by
    have e : i = ks.length := by omega
    subst e
    refine ⟨out, by omega, Nat.le_refl _, hops, Evt.all fun N m hm => ?_, Evt.all fun N m hm => ?_⟩
    · obtain ⟨m, rfl⟩ : ∃ m', m = m' + 1 := ⟨m - 1, by omega⟩
      have hB : L136_0 (ev Try.prog sg N) N [.int ks.length, .int d, intsG sl, .agg [.list out], .agg [.int op, .int n, .list ks]] = some (.x 1, [intsG sl, .agg [.list out], .agg [.int op, .int n, .list ks]]) := by simp (disch := omega) [L136_0, ltF]
      simp only [loopEv, hB, thenN_x, passE_eq]
    · obtain ⟨m, rfl⟩ : ∃ m', m = m' + 1 := ⟨m - 1, by omega⟩
      have hB : L184_0 (ev Try.prog sg N) N [.int ks.length, .int ks.length, .list ks, .int d, .agg [.list out, intsG sl]] = some (.x 0, [.agg [.list out, intsG sl]]) := by simp (disch := omega) [L184_0, ltF]
      simp only [loopEv, hB, thenN_x, passE_eq]
  | j + 1, i, out, hi, ho, hops => by
    have hlt : i < ks.length := by omega
    have hsum : sumN sf (i + 1) = sumN sf i + sf i := rfl
    have hmono := sumN_mono sf (i := i + 1) (j := ks.length) (by omega)
    have hge := sumN_ge (f := sf) i fun k hk => hp k (by omega)
    obtain ⟨o1, h1⟩ := hg i hlt out sl (d + i) hs (by omega) hv (by omega) (by push_cast at hds; omega) (by omega) hops
    have e1 := h1.le
    obtain ⟨o2, a1, a2, a3, a4, a5⟩ := kids_loop hp hg hs hsl hv hd hds j (i + 1) o1 (by omega) (by omega) h1.ops
    have hge2 := h1.ge
    have w : IntKind.i64.wrap (d + (i : Int)) = d + i := wrap64 (by omega) (by push_cast at hds; omega)
    refine ⟨o2, by omega, by omega, a3, h1.spec.mp2 a4 fun N q1 q2 m hm => ?_, h1.impl.mp2 a5 fun N q1 q2 m hm => ?_⟩
    · obtain ⟨m, rfl⟩ : ∃ m', m = m' + 1 := ⟨m - 1, by omega⟩
      have hB : L136_0 (ev Try.prog sg N) N [.int i, .int d, intsG sl, .agg [.list out], .agg [.int op, .int n, .list ks]] = some (.n, [.int (i + 1 : Nat), .int d, intsG sl, .agg [.list o1], .agg [.int op, .int n, .list ks]]) := by
        simp (disch := omega) only [L136_0, nth_0, nth_1, nth_2, nth_3, nth_4, fld_agg, toInt_int, toList_list, ltT, geT, iff_true', Int.toNat_natCast, w, q1, Option.bind_some, wrap64]
        simp
      simp only [loopEv, hB, thenN_n]
      exact q2 m (by omega)
    · obtain ⟨m, rfl⟩ : ∃ m', m = m' + 1 := ⟨m - 1, by omega⟩
      have hB : L184_0 (ev Try.prog sg N) N [.int i, .int ks.length, .list ks, .int d, .agg [.list out, intsG sl]] = some (.n, [.int (i + 1 : Nat), .int ks.length, .list ks, .int d, .agg [.list o1, intsG sl]]) := by
        simp (disch := omega) only [L184_0, nth_0, nth_1, nth_2, nth_3, nth_4, fld_agg, toInt_int, toList_list, ltT, geT, iff_true', Int.toNat_natCast, w, q1, Option.bind_some, wrap64]
        simp
      simp only [loopEv, hB, thenN_n]
      exact q2 m (by omega)
end
end Go.Proofs.Ytijgokehlicmnaa.GFnExactGen
