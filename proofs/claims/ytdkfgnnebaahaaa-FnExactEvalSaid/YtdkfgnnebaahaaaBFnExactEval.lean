/- What functions of the program and of the reference come to, for the law FnExactEval. Each under the conditions that it names. -/
import Derived.Test.YtdkfgnnebaahaaaAFnExactEval
namespace Go.Proofs.Ytdkfgnnebaahaaa.GFnExactEval
open Go Go.Rsc Go.Proofs.Ytdkfgnnebaahaaa
set_option maxRecDepth 100000
set_option linter.unusedVariables false
set_option linter.unusedSimpArgs false
def okW (x : Int) : Bool := decide (-1073741824 ≤ x ∧ x ≤ 1073741823)
def okR (x a b : Int) : Bool := decide (a ≤ x ∧ x ≤ b)
theorem is54 (x y z : Int) : Rn 69 [.int x, .int y, .int z] [.bool (okR x y z)] := by
  refine Is.of e69 (Evt.all fun n => ?_)
  by_cases h : x ≥ y <;> simp [F69, geI, leI, h, okR]
theorem is51 (x y z : Int) : Rn 66 [.int x, .int y, .int z] [.bool (okR x y z)] := by
  refine Is.of e66 (Evt.all fun n => ?_)
  by_cases h : x ≥ y <;> simp [F66, geI, leI, h, okR]
theorem is102 (x : Int) : Rn 60 [.int x] [.bool (okW x)] :=
  Is.of e60 ((is54 x (-1073741824) 1073741823).mp fun n h => by simp only [okR] at h; simp [F60, h, okW])
theorem is101 (x : Int) : Rn 54 [.int x] [.bool (okW x)] :=
  Is.of e54 ((is51 x (-1073741824) 1073741823).mp fun n h => by simp only [okR] at h; simp [F54, h, okW])
theorem okR_in {x a b : Int} (h : okR x a b = true) : a ≤ x ∧ x ≤ b := by simpa [okR] using h
/-! ### Cores that are marked: their texts' marks -/
theorem size_cat (a b : ByteArray) : (catB a b).size = a.size + b.size := by rw [catB_eq, ByteArray.size_append]
theorem mkLoop : ∀ (j k : Nat) (s : ByteArray), k < 10 ^ j → k < 1152921504606846976 → s.size + j ≤ 1000 →
    ∃ s' : ByteArray, s'.size ≤ 1000 ∧ Evt fun n => ∀ m, j + 1 ≤ m → loopEv (L48_0 (ev Try.prog sg n) n) m [.int k, .str s] = some (.x 0, [.str s'])
  | 0, k, s, hk, hk2, hs => by
    have : k = 0 := by simpa using hk
    subst this
    refine ⟨s, by omega, Evt.all fun n m hm => ?_⟩
    obtain ⟨m, rfl⟩ : ∃ m', m = m' + 1 := ⟨m - 1, by omega⟩
    simp (disch := omega) [loopEv, L48_0, gtF]
  | j + 1, k, s, hk, hk2, hs => by
    by_cases h0 : k = 0
    · subst h0
      refine ⟨s, by omega, Evt.all fun n m hm => ?_⟩
      obtain ⟨m, rfl⟩ : ∃ m', m = m' + 1 := ⟨m - 1, by omega⟩
      simp (disch := omega) [loopEv, L48_0, gtF]
    · have hz : ∀ x : PV, (catB (b2sL [x]) s).size = 1 + s.size := fun x => by rw [size_cat]; rfl
      have hq : arith .quo .i64 (k : Int) 10 = ((k / 10 : Nat) : Int) := arith_quo k 10 (by omega)
      obtain ⟨s', h1, h2⟩ := mkLoop j (k / 10) (catB (b2sL [.int (IntKind.u8.wrap (IntKind.i64.wrap (48 + arith .rem .i64 (k : Int) 10)))]) s) (by rw [Nat.pow_succ] at hk; omega) (by omega) (by rw [hz]; omega)
      refine ⟨s', h1, h2.mp fun n h m hm => ?_⟩
      obtain ⟨m, rfl⟩ : ∃ m', m = m' + 1 := ⟨m - 1, by omega⟩
      have hb : L48_0 (ev Try.prog sg n) n [.int k, .str s] = some (.n, [.int ((k / 10 : Nat) : Int), .str (catB (b2sL [.int (IntKind.u8.wrap (IntKind.i64.wrap (48 + arith .rem .i64 (k : Int) 10)))]) s)]) := by
        simp (disch := omega) only [L48_0, nth_0, nth_1, toInt_int, toStr_str, gtT, iff_true', neT, hz, leT, hq]
      simp only [loopEv, hb, thenN_n]
      exact h m (by omega)
theorem mkText {k : Int} (h0 : 0 ≤ k) (hk : k ≤ 1099511627790) : ∃ s, Rn 48 [.int k] [.str s] := by
  obtain ⟨k, rfl⟩ : ∃ n : Nat, k = n := ⟨k.toNat, by omega⟩
  by_cases hz : k = 0
  · subst hz
    exact ⟨⟨#[109, 48]⟩, Is.of e48 (Evt.all fun n => by simp [F48, leI])⟩
  · obtain ⟨s, h1, h2⟩ := mkLoop 13 k (⟨#[]⟩ : ByteArray) (by omega) (by omega) (by decide)
    refine ⟨catB (⟨#[109]⟩ : ByteArray) s, Is.of e48 (h2.mp2 (Evt.ge 14) fun n h hn => ?_)⟩
    have h := h n (by omega)
    have hs : (catB (⟨#[109]⟩ : ByteArray) s).size ≤ 1001 := by rw [size_cat]; show 1 + s.size ≤ 1001; omega
    simp (disch := omega) only [F48, nth_0, toInt_int, leF, iff_false', h, thenE_some, passB_same, thenN_n, toStr_str, leT, iff_true']
theorem markS_aux : ∀ (N : Nat) (p : PV), SizeOf.sizeOf p = N → WfT Try.prog 22 p → ∀ {k : Int}, 0 ≤ k → k + p.cn ≤ 1099511627776 → ∃ m, Rn 26 [p, .int k] [.int (k + p.cn), .list m] := by
  intro N
  induction N using Nat.strongRecOn with
  | ind N ih =>
  intro p hN h k hk hB
  subst hN
  obtain ⟨l, rfl, hl, he⟩ := wf_slice (e := 24) (by kernel_rfl) h
  have hm : maxLen = 9223372036854775807 := rfl
  simp only [cn_list] at hB
  have key := mark_loop (body := fun n => L26_0 (ev Try.prog sg n) n) (pay := fun i k m => [.int i, .int k, .list m]) (res := fun k m => [.list m, .int k]) (good := fun _ _ _ => True) (B := 1099511627776) (l := l) (fun d r x k hxm hlen h1 h2 => ?_) (fun k m hlen => Evt.all fun n => ?_) k hk hB
  · obtain ⟨m, hg, hloop⟩ := key
    refine ⟨m, Is.of e26 (hloop.mp fun n h => ?_)⟩
    simp at h
    simp [F26, h]
  · have hx := he x hxm
    obtain ⟨x0, x1, x2, x3, x4, rfl, xh0, xh1, xh2, xh3, xh4⟩ := wf24 hx
    obtain ⟨l4, rfl, hl4, he4⟩ := wf_slice (e := 24) (by kernel_rfl) xh4
    simp at hlen h2
    obtain ⟨s1, t1⟩ := mkText (k := k + 1 + 1) (by omega) (by omega)
    obtain ⟨s2, t2⟩ := mkText (k := k + 1 + 1 + 1) (by omega) (by omega)
    obtain ⟨y4, c0⟩ := ih _ (by have := size_mem hxm; simp at this ⊢; omega) _ rfl xh4 (k := k + 1 + 1 + 1 + 1) (by omega) (by simp; omega)
    refine ⟨.agg [.int k, .int (k + 1), .str s1, .str s2, .list y4], trivial, (c0.and (t1.and t2)).mp fun n h => ?_⟩
    obtain ⟨q0, q1, q2⟩ := h
    simp at q0
    simp (disch := omega) [L26_0, ltT, geT, wrap64, nth_mid, set_mid, q0, q1, q2]
    try omega
  · simp (disch := omega) [L26_0, ltF, hlen]
theorem markC {p : PV} (h : WfT Try.prog 24 p) {k : Int} (hk : 0 ≤ k) (hB : k + p.cn ≤ 1099511627776) : ∃ (r : Int) (q : PV), 0 ≤ r ∧ Rn 10 [p, .int k] [.int r, q] := by
  obtain ⟨x0, x1, x2, x3, x4, rfl, xh0, xh1, xh2, xh3, xh4⟩ := wf24 h
  simp at hB
  obtain ⟨m, c0⟩ := markS_aux _ _ rfl xh4 (k := k) hk (by omega)
  exact ⟨k + x4.cn, .agg [.int x0, .int x1, .str x2, .str x3, .list m], by omega, Is.of e10 (c0.mp fun n h => by simp [F10, h])⟩
/-! ### Numbers -/
theorem round72 (x : Int) : Rn 72 [.int x] [.int (if arith .and .i64 x 2147483647 > 1073741823 then IntKind.i64.wrap (arith .and .i64 x 2147483647 - 2147483648) else arith .and .i64 x 2147483647)] := by
  refine Is.of e72 (Evt.all fun n => ?_)
  by_cases h : arith .and .i64 x 2147483647 > 1073741823
  · have : geI (arith .and .i64 x 2147483647) 1073741824 = true := geT (by omega)
    simp [F72, this, h]
  · have : geI (arith .and .i64 x 2147483647) 1073741824 = false := geF (by omega)
    simp [F72, this, h]
theorem round68 (x : Int) : Rn 68 [.int x] [.int (if arith .and .i64 x 2147483647 > 1073741823 then IntKind.i64.wrap (arith .and .i64 x 2147483647 - 2147483648) else arith .and .i64 x 2147483647)] := by
  refine Is.of e68 (Evt.all fun n => ?_)
  by_cases h : arith .and .i64 x 2147483647 > 1073741823 <;> simp [F68, gtI, h]
/-! ### Texts -/
def eqS (a b : ByteArray) : Bool := cmpS .eql a b
theorem eqS_comm (a b : ByteArray) : eqS a b = eqS b a := by
  simp only [eqS, cmpS]
  rw [Bool.eq_iff_iff]
  simp only [beq_iff_eq]
  exact ⟨Eq.symm, Eq.symm⟩
theorem neq_eqS (a b : ByteArray) : cmpS .neq a b = !eqS a b := rfl
theorem eqS_refl (a : ByteArray) : eqS a a = true := by simp [eqS, cmpS]
/-! ### Cores as trees -/
inductive Co where
  | mk (op n : Int) (s t : ByteArray) (ks : List Co)
mutual
def Co.pv : Co → PV
  | .mk op n s t ks => .agg [.int op, .int n, .str s, .str t, .list (Co.pvs ks)]
def Co.pvs : List Co → List PV
  | [] => []
  | c :: l => c.pv :: Co.pvs l
end
mutual
def Co.size : Co → Nat
  | .mk _ _ _ _ ks => 1 + Co.sizes ks
def Co.sizes : List Co → Nat
  | [] => 0
  | c :: l => c.size + Co.sizes l
end
mutual
def Co.deep : Co → Nat
  | .mk _ _ _ _ ks => Co.deeps ks + 1
def Co.deeps : List Co → Nat
  | [] => 0
  | c :: l => max c.deep (Co.deeps l)
end
theorem Co.pvs_map (l : List Co) : Co.pvs l = l.map Co.pv := by
  induction l with
  | nil => rfl
  | cons c l ih => simp [Co.pvs, ih]
theorem Co.pvs_len (l : List Co) : (Co.pvs l).length = l.length := by rw [Co.pvs_map, List.length_map]
theorem Co.pvs_app (a b : List Co) : Co.pvs (a ++ b) = Co.pvs a ++ Co.pvs b := by simp [Co.pvs_map]
theorem Co.sizes_app (a b : List Co) : Co.sizes (a ++ b) = Co.sizes a + Co.sizes b := by
  induction a with
  | nil => simp [Co.sizes]
  | cons c a ih => simp [Co.sizes, ih, Nat.add_assoc]
theorem Co.deeps_app (a b : List Co) : Co.deeps (a ++ b) = max (Co.deeps a) (Co.deeps b) := by
  induction a with
  | nil => simp [Co.deeps]
  | cons c a ih => simp [Co.deeps, ih, Nat.max_assoc]
theorem Co.size_pos : ∀ c : Co, 1 ≤ c.size
  | .mk _ _ _ _ _ => by simp [Co.size]
theorem Co.deep_pos : ∀ c : Co, 1 ≤ c.deep
  | .mk _ _ _ _ _ => by simp [Co.deep]
theorem Co.len_le (l : List Co) : l.length ≤ Co.sizes l := by
  induction l with
  | nil => simp [Co.sizes]
  | cons c l ih => have := c.size_pos; simp [Co.sizes]; omega
mutual
theorem Co.deep_le : ∀ c : Co, c.deep ≤ c.size
  | .mk _ _ _ _ ks => by have := Co.deeps_le ks; simp [Co.deep, Co.size]; omega
theorem Co.deeps_le : ∀ l : List Co, Co.deeps l ≤ Co.sizes l
  | [] => by simp [Co.deeps, Co.sizes]
  | c :: l => by have := Co.deep_le c; have := Co.deeps_le l; simp [Co.deeps, Co.sizes]; omega
end
theorem co_of : ∀ (N : Nat) (p : PV), SizeOf.sizeOf p = N → WfT Try.prog 24 p → ∃ c : Co, p = c.pv ∧ c.size ≤ 1 + p.wt := by
  intro N
  induction N using Nat.strongRecOn with
  | ind N ih =>
  intro p hN h
  subst hN
  obtain ⟨x0, x1, x2, x3, x4, rfl, xh0, xh1, xh2, xh3, xh4⟩ := wf24 h
  obtain ⟨l, rfl, hl, he⟩ := wf_slice (e := 24) (by kernel_rfl) xh4
  have key : ∀ l' : List PV, (∀ q, q ∈ l' → q ∈ l) → ∃ ks : List Co, l' = Co.pvs ks ∧ Co.sizes ks ≤ l'.length + PV.wts l' := by
    intro l'
    induction l' with
    | nil => exact fun _ => ⟨[], rfl, by simp [Co.sizes]⟩
    | cons q l' ihl =>
      intro hq
      obtain ⟨ks, rfl, h2⟩ := ihl fun x hx => hq x (by simp [hx])
      have hqm := hq q (by simp)
      obtain ⟨c, rfl, h3⟩ := ih _ (by have := size_mem hqm; simp at this ⊢; omega) q rfl (he q hqm)
      refine ⟨c :: ks, rfl, ?_⟩
      simp only [Co.sizes, List.length_cons, wts_cons]
      omega
  obtain ⟨ks, rfl, h2⟩ := key l fun q hq => hq
  refine ⟨.mk x0 x1 x2 x3 ks, rfl, ?_⟩
  simp only [Co.size, wt_agg, wts_cons, wt_list, wts_nil, wt_int, wt_str]
  omega
/-! ### Sizes and depths, as the reference has them -/
mutual
theorem sizeS : ∀ c : Co, c.size ≤ 2097152 → Rn 31 [c.pv] [.int c.size]
  | .mk op n s t ks, hc => by
    simp only [Co.size] at hc
    have hl := sizesS ks [] op n s t 1 (by simp [Co.sizes]) (by simpa [Co.sizes] using hc)
    have hlen := Co.len_le ks
    refine Is.of e31 (hl.mp2 (Evt.ge (ks.length + 1)) fun k h hk => ?_)
    have h := h k hk
    simp only [List.nil_append, List.length_nil] at h
    simp only [F31, nth_0, Co.pv]
    have h' : loopEv (L31_0 (ev Try.prog sg k) k) k [.int 0, .int 1, .agg [.int op, .int n, .str s, .str t, .list (Co.pvs ks)]] = _ := h
    simp only [h', thenE_some, passB_same, thenN_n, nth_0]
    rfl
theorem sizesS : ∀ (ks pre : List Co) (op n : Int) (s t : ByteArray) (acc : Nat), acc = 1 + Co.sizes pre → 1 + Co.sizes ks + Co.sizes pre ≤ 2097152 →
    Evt fun k => ∀ m, ks.length + 1 ≤ m → loopEv (L31_0 (ev Try.prog sg k) k) m [.int (pre.length : Nat), .int acc, .agg [.int op, .int n, .str s, .str t, .list (Co.pvs (pre ++ ks))]] = some (.x 0, [.int ((1 + Co.sizes (pre ++ ks) : Nat) : Int)])
  | [], pre, op, n, s, t, acc, ha, hb => by
    refine Evt.all fun k m hm => ?_
    obtain ⟨m, rfl⟩ : ∃ m', m = m' + 1 := ⟨m - 1, by omega⟩
    simp (disch := omega) [loopEv, L31_0, Co.pvs_len, ltF, ha]
  | c :: ks, pre, op, n, s, t, acc, ha, hb => by
    simp only [Co.sizes] at hb
    have hlen := Co.len_le pre
    have hp := c.size_pos
    have hcl : (pre ++ c :: ks).length = pre.length + 1 + ks.length := by simp; omega
    have e1 : pre ++ c :: ks = (pre ++ [c]) ++ ks := by simp
    have ih := sizesS ks (pre ++ [c]) op n s t (acc + c.size) (by simp [Co.sizes_app, Co.sizes]; omega) (by simp [Co.sizes_app, Co.sizes]; omega)
    refine (sizeS c (by omega)).mp2 ih fun k h1 h2 m hm => ?_
    obtain ⟨m, rfl⟩ : ∃ m', m = m' + 1 := ⟨m - 1, by omega⟩
    have hn : nth (Co.pvs (pre ++ c :: ks)) pre.length = c.pv := by
      rw [Co.pvs_app]
      have := nth_mid (Co.pvs pre) (Co.pvs ks) c.pv
      rwa [Co.pvs_len] at this
    have hB : L31_0 (ev Try.prog sg k) k [.int (pre.length : Nat), .int acc, .agg [.int op, .int n, .str s, .str t, .list (Co.pvs (pre ++ c :: ks))]] = some (.n, [.int ((pre ++ [c]).length : Nat), .int ((acc + c.size : Nat) : Int), .agg [.int op, .int n, .str s, .str t, .list (Co.pvs (pre ++ c :: ks))]]) := by
      simp (disch := omega) only [L31_0, nth_0, nth_1, nth_2, nth_3, nth_4, toInt_int, fld_agg, toList_list, Co.pvs_len, hcl, ltT, geT, iff_true', Int.toNat_natCast, hn, h1, Option.bind_some, wrap64]
      simp
    simp only [loopEv, hB, thenN_n]
    have := h2 m (by simpa using hm)
    rw [← e1] at this
    exact this
end
theorem max51 (x y : Int) : Rn 51 [.int x, .int y] [.int (max x y)] := by
  refine Is.of e51 (Evt.all fun n => ?_)
  by_cases h : y < x
  · have : max x y = x := by omega
    simp [F51, gtI, h, this]
  · have : max x y = y := by omega
    simp [F51, gtI, h, this]
mutual
theorem deepS : ∀ c : Co, c.size ≤ 2097152 → Rn 32 [c.pv] [.int c.deep]
  | .mk op n s t ks, hc => by
    simp only [Co.size] at hc
    have hl := deepsS ks [] op n s t (by simpa [Co.sizes] using hc)
    have hlen := Co.len_le ks
    have hd := Co.deeps_le ks
    refine Is.of e32 (hl.mp2 (Evt.ge (ks.length + 1)) fun k h hk => ?_)
    have h := h k hk
    simp only [List.nil_append, List.length_nil] at h
    have h' : loopEv (L32_0 (ev Try.prog sg k) k) k [.int 0, .int 0, .agg [.int op, .int n, .str s, .str t, .list (Co.pvs ks)]] = _ := h
    simp (disch := omega) only [F32, nth_0, Co.pv, h', thenE_some, passB_same, thenN_n, toInt_int, wrap64]
    simp [Co.deep]
theorem deepsS : ∀ (ks pre : List Co) (op n : Int) (s t : ByteArray), 1 + Co.sizes ks + Co.sizes pre ≤ 2097152 →
    Evt fun k => ∀ m, ks.length + 1 ≤ m → loopEv (L32_0 (ev Try.prog sg k) k) m [.int (pre.length : Nat), .int (Co.deeps pre : Nat), .agg [.int op, .int n, .str s, .str t, .list (Co.pvs (pre ++ ks))]] = some (.x 0, [.int ((Co.deeps (pre ++ ks) : Nat) : Int)])
  | [], pre, op, n, s, t, hb => by
    refine Evt.all fun k m hm => ?_
    obtain ⟨m, rfl⟩ : ∃ m', m = m' + 1 := ⟨m - 1, by omega⟩
    simp (disch := omega) [loopEv, L32_0, Co.pvs_len, ltF]
  | c :: ks, pre, op, n, s, t, hb => by
    simp only [Co.sizes] at hb
    have hlen := Co.len_le pre
    have hp := c.size_pos
    have hcl : (pre ++ c :: ks).length = pre.length + 1 + ks.length := by simp; omega
    have e1 : pre ++ c :: ks = (pre ++ [c]) ++ ks := by simp
    have ih := deepsS ks (pre ++ [c]) op n s t (by simp [Co.sizes_app, Co.sizes]; omega)
    refine (deepS c (by omega)).mp3 (max51 (Co.deeps pre) c.deep) ih fun k h1 h3 h2 m hm => ?_
    obtain ⟨m, rfl⟩ : ∃ m', m = m' + 1 := ⟨m - 1, by omega⟩
    have hn : nth (Co.pvs (pre ++ c :: ks)) pre.length = c.pv := by
      rw [Co.pvs_app]
      have := nth_mid (Co.pvs pre) (Co.pvs ks) c.pv
      rwa [Co.pvs_len] at this
    have hB : L32_0 (ev Try.prog sg k) k [.int (pre.length : Nat), .int (Co.deeps pre : Nat), .agg [.int op, .int n, .str s, .str t, .list (Co.pvs (pre ++ c :: ks))]] = some (.n, [.int ((pre ++ [c]).length : Nat), .int ((Co.deeps (pre ++ [c]) : Nat) : Int), .agg [.int op, .int n, .str s, .str t, .list (Co.pvs (pre ++ c :: ks))]]) := by
      simp (disch := omega) only [L32_0, nth_0, nth_1, nth_2, nth_3, nth_4, toInt_int, fld_agg, toList_list, Co.pvs_len, hcl, ltT, geT, iff_true', Int.toNat_natCast, hn, h1, h3, Option.bind_some, wrap64]
      simp [Co.deeps_app, Co.deeps]
      omega
    simp only [loopEv, hB, thenN_n]
    have := h2 m (by simpa using hm)
    rw [← e1] at this
    exact this
end
/-! ### Which cores are right -/
def arC (op : Int) : Int :=
  if op = 1 ∨ op = 2 ∨ op = 13 then 0
  else if op = 3 ∨ op = 15 ∨ op = 16 ∨ op = 17 ∨ op = 18 then 1
  else if op = 4 ∨ op = 5 ∨ op = 6 ∨ op = 8 ∨ op = 9 ∨ op = 10 ∨ op = 11 ∨ op = 12 ∨ op = 14 then 2
  else if op = 7 then 3 else -1
def nmC (op : Int) : Bool := decide (op = 2 ∨ op = 3 ∨ op = 5 ∨ op = 6)
theorem ops18 {p : Int → Prop} (h1 : p 1) (h2 : p 2) (h3 : p 3) (h4 : p 4) (h5 : p 5) (h6 : p 6) (h7 : p 7) (h8 : p 8) (h9 : p 9) (h10 : p 10) (h11 : p 11) (h12 : p 12) (h13 : p 13) (h14 : p 14) (h15 : p 15) (h16 : p 16) (h17 : p 17) (h18 : p 18)
    (h : ∀ c : Int, c ≠ 1 → c ≠ 2 → c ≠ 3 → c ≠ 4 → c ≠ 5 → c ≠ 6 → c ≠ 7 → c ≠ 8 → c ≠ 9 → c ≠ 10 → c ≠ 11 → c ≠ 12 → c ≠ 13 → c ≠ 14 → c ≠ 15 → c ≠ 16 → c ≠ 17 → c ≠ 18 → p c) (c : Int) : p c := by
  by_cases e : 1 ≤ c ∧ c ≤ 18
  · have : c = 1 ∨ c = 2 ∨ c = 3 ∨ c = 4 ∨ c = 5 ∨ c = 6 ∨ c = 7 ∨ c = 8 ∨ c = 9 ∨ c = 10 ∨ c = 11 ∨ c = 12 ∨ c = 13 ∨ c = 14 ∨ c = 15 ∨ c = 16 ∨ c = 17 ∨ c = 18 := by omega
    rcases this with rfl | rfl | rfl | rfl | rfl | rfl | rfl | rfl | rfl | rfl | rfl | rfl | rfl | rfl | rfl | rfl | rfl | rfl <;> assumption
  · exact h c (by omega) (by omega) (by omega) (by omega) (by omega) (by omega) (by omega) (by omega) (by omega) (by omega) (by omega) (by omega) (by omega) (by omega) (by omega) (by omega) (by omega) (by omega)
theorem arI (op : Int) : Rn 59 [.int op] [.int (arC op)] := by
  refine Is.of e59 (Evt.all fun k => ?_)
  refine ops18 (p := fun op => F59 (ev Try.prog sg k) k [.int op] = some [.int (arC op)]) ?_ ?_ ?_ ?_ ?_ ?_ ?_ ?_ ?_ ?_ ?_ ?_ ?_ ?_ ?_ ?_ ?_ ?_ ?_ op
  all_goals first
    | (simp [F59, eqI, arC]; done)
    | (intro c h1 h2 h3 h4 h5 h6 h7 h8 h9 h10 h11 h12 h13 h14 h15 h16 h17 h18; simp [F59, arC, eqF h1, eqF h2, eqF h3, eqF h4, eqF h5, eqF h6, eqF h7, eqF h8, eqF h9, eqF h10, eqF h11, eqF h12, eqF h13, eqF h14, eqF h15, eqF h16, eqF h17, eqF h18, h1, h2, h3, h4, h5, h6, h7, h8, h9, h10, h11, h12, h13, h14, h15, h16, h17, h18])
theorem arS (op : Int) : Rn 52 [.int op] [.int (arC op)] := by
  refine Is.of e52 (Evt.all fun k => ?_)
  refine ops18 (p := fun op => F52 (ev Try.prog sg k) k [.int op] = some [.int (arC op)]) ?_ ?_ ?_ ?_ ?_ ?_ ?_ ?_ ?_ ?_ ?_ ?_ ?_ ?_ ?_ ?_ ?_ ?_ ?_ op
  all_goals first
    | (simp [F52, eqI, arC]; done)
    | (intro c h1 h2 h3 h4 h5 h6 h7 h8 h9 h10 h11 h12 h13 h14 h15 h16 h17 h18; simp [F52, arC, eqF h1, eqF h2, eqF h3, eqF h4, eqF h5, eqF h6, eqF h7, eqF h8, eqF h9, eqF h10, eqF h11, eqF h12, eqF h13, eqF h14, eqF h15, eqF h16, eqF h17, eqF h18, h1, h2, h3, h4, h5, h6, h7, h8, h9, h10, h11, h12, h13, h14, h15, h16, h17, h18])
theorem nmS (op : Int) : Rn 53 [.int op] [.bool (nmC op)] := by
  refine Is.of e53 (Evt.all fun k => ?_)
  by_cases h2 : op = 2
  · subst h2; simp [F53, eqI, nmC, PV.isB]
  by_cases h3 : op = 3
  · subst h3; simp [F53, eqI, nmC, PV.isB]
  by_cases h5 : op = 5
  · subst h5; simp [F53, eqI, nmC, PV.isB]
  by_cases h6 : op = 6
  · subst h6; simp [F53, eqI, nmC, PV.isB]
  simp [F53, nmC, PV.isB, eqF h2, eqF h3, eqF h5, eqF h6, h2, h3, h5, h6]
def strsB (l : List ByteArray) : PV := .list (l.map PV.str)
def inB (l : List ByteArray) (s : ByteArray) : Bool := l.any fun x => eqS x s
theorem nth_strs (pre : List ByteArray) (x : ByteArray) (l : List ByteArray) : nth ((pre ++ x :: l).map PV.str) pre.length = .str x := by
  have := nth_mid (pre.map PV.str) (l.map PV.str) (.str x)
  rw [List.length_map] at this
  rw [List.map_append, List.map_cons]
  exact this
theorem inLoopS : ∀ (l pre : List ByteArray) (s : ByteArray), (pre ++ l).length ≤ 1048576 →
    Evt fun k => ∀ m, l.length + 1 ≤ m → loopEv (L55_0 (ev Try.prog sg k) k) m [.int (pre.length : Nat), strsB (pre ++ l), .str s] = some (if inB l s then (.r, [.bool true]) else (.x 0, []))
  | [], pre, s, hb => by
    refine Evt.all fun k m hm => ?_
    obtain ⟨m, rfl⟩ : ∃ m', m = m' + 1 := ⟨m - 1, by omega⟩
    simp (disch := omega) [loopEv, L55_0, ltF, strsB, inB]
  | x :: l, pre, s, hb => by
    have hcl : (pre ++ x :: l).length = pre.length + 1 + l.length := by simp; omega
    have e1 : pre ++ x :: l = (pre ++ [x]) ++ l := by simp
    have ih := inLoopS l (pre ++ [x]) s (by rw [← e1]; exact hb)
    refine ih.mp fun k h m hm => ?_
    obtain ⟨m, rfl⟩ : ∃ m', m = m' + 1 := ⟨m - 1, by omega⟩
    have h := h m (by simpa using hm)
    have hml : ((pre ++ x :: l).map PV.str).length = pre.length + 1 + l.length := by rw [List.length_map, hcl]
    rw [hcl] at hb
    cases hx : eqS x s with
    | true =>
      have hc : cmpS .eql x s = true := hx
      have hB : L55_0 (ev Try.prog sg k) k [.int (pre.length : Nat), strsB (pre ++ x :: l), .str s] = some (.r, [.bool true]) := by
        simp (disch := omega) only [L55_0, strsB, nth_0, nth_1, nth_2, toInt_int, toList_list, hml, ltT, geT, iff_true', Int.toNat_natCast, nth_strs, toStr_str, hc]
      simp only [loopEv, hB, inB, List.any_cons, hx, Bool.true_or, if_true]
      rfl
    | false =>
      have hc : cmpS .eql x s = false := hx
      have hB : L55_0 (ev Try.prog sg k) k [.int (pre.length : Nat), strsB (pre ++ x :: l), .str s] = some (.n, [.int ((pre ++ [x]).length : Nat), strsB (pre ++ x :: l), .str s]) := by
        simp (disch := omega) only [L55_0, strsB, nth_0, nth_1, nth_2, toInt_int, toList_list, hml, ltT, geT, iff_true', Int.toNat_natCast, nth_strs, toStr_str, hc, iff_false', wrap64]
        simp
      simp only [loopEv, hB, thenN_n, inB, List.any_cons, hx, Bool.false_or]
      rw [← e1] at h
      exact h
theorem inS {env : List ByteArray} (s : ByteArray) (h : env.length ≤ 1048576) : Rn 55 [strsB env, .str s] [.bool (inB env s)] := by
  refine Is.of e55 ((inLoopS env [] s (by simpa using h)).mp2 (Evt.ge (env.length + 1)) fun k q hk => ?_)
  have q := q k hk
  have q' : loopEv (L55_0 (ev Try.prog sg k) k) k [.int 0, strsB env, .str s] = _ := q
  simp only [F55, nth_0, nth_1, q']
  cases inB env s <;> simp
theorem inLoopI : ∀ (l pre : List ByteArray) (s : ByteArray), (pre ++ l).length ≤ 1048576 → ∃ r : Nat,
    Evt fun k => ∀ m, l.length + 1 ≤ m → loopEv (L70_0 (ev Try.prog sg k) k) m [.int (pre.length : Nat), .int ((pre ++ l).length : Nat), .str s, strsB (pre ++ l)] = some (if inB l s then (.r, [.int r]) else (.x 0, []))
  | [], pre, s, hb => by
    refine ⟨0, Evt.all fun k m hm => ?_⟩
    obtain ⟨m, rfl⟩ : ∃ m', m = m' + 1 := ⟨m - 1, by omega⟩
    simp (disch := omega) [loopEv, L70_0, ltF, strsB, inB]
  | x :: l, pre, s, hb => by
    have hcl : (pre ++ x :: l).length = pre.length + 1 + l.length := by simp; omega
    have e1 : pre ++ x :: l = (pre ++ [x]) ++ l := by simp
    obtain ⟨r, ih⟩ := inLoopI l (pre ++ [x]) s (by rw [← e1]; exact hb)
    have hml : ((pre ++ x :: l).map PV.str).length = pre.length + 1 + l.length := by rw [List.length_map, hcl]
    have hb2 := hb
    rw [hcl] at hb
    cases hx : eqS x s with
    | true =>
      refine ⟨pre.length, Evt.all fun k m hm => ?_⟩
      obtain ⟨m, rfl⟩ : ∃ m', m = m' + 1 := ⟨m - 1, by omega⟩
      have hc : cmpS .eql s x = true := by have := eqS_comm s x; rw [hx] at this; exact this
      have hB : L70_0 (ev Try.prog sg k) k [.int (pre.length : Nat), .int ((pre ++ x :: l).length : Nat), .str s, strsB (pre ++ x :: l)] = some (.r, [.int pre.length]) := by
        simp (disch := omega) only [L70_0, strsB, nth_0, nth_1, nth_2, nth_3, toInt_int, toList_list, hml, hcl, ltT, geT, iff_true', Int.toNat_natCast, nth_strs, toStr_str, hc]
      simp only [loopEv, hB, inB, List.any_cons, hx, Bool.true_or, if_true]
      rfl
    | false =>
      refine ⟨r, ih.mp fun k h m hm => ?_⟩
      obtain ⟨m, rfl⟩ : ∃ m', m = m' + 1 := ⟨m - 1, by omega⟩
      have h := h m (by simpa using hm)
      have hc : cmpS .eql s x = false := by have := eqS_comm s x; rw [hx] at this; exact this
      have hB : L70_0 (ev Try.prog sg k) k [.int (pre.length : Nat), .int ((pre ++ x :: l).length : Nat), .str s, strsB (pre ++ x :: l)] = some (.n, [.int ((pre ++ [x]).length : Nat), .int ((pre ++ x :: l).length : Nat), .str s, strsB (pre ++ x :: l)]) := by
        simp (disch := omega) only [L70_0, strsB, nth_0, nth_1, nth_2, nth_3, toInt_int, toList_list, hml, hcl, ltT, geT, iff_true', Int.toNat_natCast, nth_strs, toStr_str, hc, iff_false', wrap64]
        simp
      simp only [loopEv, hB, thenN_n, inB, List.any_cons, hx, Bool.false_or]
      rw [← e1] at h
      exact h
theorem inI {env : List ByteArray} (s : ByteArray) (h : env.length ≤ 1048576) : Rn 61 [strsB env, .str s] [.bool (inB env s)] := by
  obtain ⟨r, hr⟩ := inLoopI env [] s (by simpa using h)
  have hl : (env.map PV.str).length = env.length := List.length_map ..
  have h1 : Rn 70 [strsB env, .str s] [.int (if inB env s then (r : Int) else -1)] := by
    refine Is.of e70 (hr.mp2 (Evt.ge (env.length + 1)) fun k q hk => ?_)
    have q := q k hk
    have q' : loopEv (L70_0 (ev Try.prog sg k) k) k [.int 0, .int env.length, .str s, strsB env] = _ := q
    simp only [F70, nth_0, nth_1, strsB, toList_list, hl]
    simp only [strsB] at q'
    rw [q']
    cases inB env s <;> simp
  refine Is.of e61 (h1.mp fun k q => ?_)
  simp only [F61, nth_0, nth_1, q, Option.bind_some, toInt_int]
  cases inB env s
  · rfl
  · have : geI (r : Int) 0 = true := geT (by omega)
    simp [this]
def bdB (op : Int) (s t : ByteArray) (i : Nat) : List ByteArray :=
  if op = 3 ∨ (op = 5 ∧ i = 1) ∨ (op = 6 ∧ i = 1) then [s] else if op = 6 then [s, t] else []
theorem bdB_len (op : Int) (s t : ByteArray) (i : Nat) : (bdB op s t i).length ≤ 2 := by
  unfold bdB
  split
  · simp
  · split <;> simp
theorem bdI (op n : Int) (s t : ByteArray) (ks : PV) (i : Nat) : Rn 63 [.agg [.int op, .int n, .str s, .str t, ks], .int i] [strsB (bdB op s t i)] := by
  refine Is.of e63 (Evt.all fun k => ?_)
  by_cases h3 : op = 3
  · subst h3; simp [F63, eqI, bdB, strsB]
  by_cases h5 : op = 5
  · subst h5
    by_cases hi : i = 1
    · subst hi; simp [F63, eqI, bdB, strsB]
    · have : (i : Int) ≠ 1 := by omega
      simp [F63, eqI, bdB, strsB, hi, beq_eq_false_iff_ne.2 this]
  by_cases h6 : op = 6
  · subst h6
    by_cases hi : i = 1
    · subst hi; simp [F63, eqI, bdB, strsB]
    · have : (i : Int) ≠ 1 := by omega
      simp [F63, eqI, bdB, strsB, hi, beq_eq_false_iff_ne.2 this]
  simp [F63, eqF h3, eqF h5, eqF h6, bdB, strsB, h3, h5, h6]
theorem andS {env : List ByteArray} (s : ByteArray) (h : env.length ≤ 1048576) : Rn 67 [strsB env, .str s] [strsB (env ++ [s])] := by
  refine Is.of e67 (Evt.all fun k => ?_)
  have hl : (env.map PV.str).length = env.length := List.length_map ..
  simp (disch := omega) only [F67, strsB, nth_0, nth_1, toList_list, List.nil_append, List.length_nil, List.length_append, List.length_cons, hl, leNT, iff_true']
  simp
theorem bdS {env : List ByteArray} (op n : Int) (s t : ByteArray) (ks : PV) (i : Nat) (h : env.length ≤ 1048570) : Rn 56 [.agg [.int op, .int n, .str s, .str t, ks], .int i, strsB env] [strsB (env ++ bdB op s t i)] := by
  have ha := andS (env := env) s (by omega)
  have hb := andS (env := env ++ [s]) t (by simp; omega)
  refine Is.of e56 (ha.mp2 hb fun k q1 q2 => ?_)
  by_cases h3 : op = 3
  · subst h3; simp [F56, eqI, bdB, q1]
  by_cases h5 : op = 5
  · subst h5
    by_cases hi : i = 1
    · subst hi; simp [F56, eqI, bdB, q1]
    · have : (i : Int) ≠ 1 := by omega
      simp [F56, eqI, bdB, hi, beq_eq_false_iff_ne.2 this]
  by_cases h6 : op = 6
  · subst h6
    by_cases hi : i = 1
    · subst hi; simp [F56, eqI, bdB, q1]
    · have : (i : Int) ≠ 1 := by omega
      simp [F56, eqI, bdB, hi, beq_eq_false_iff_ne.2 this, q1, q2]
  simp [F56, eqF h3, eqF h5, eqF h6, bdB, h3, h5, h6]
end Go.Proofs.Ytdkfgnnebaahaaa.GFnExactEval
