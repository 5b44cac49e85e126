/- What functions of the program and of the reference come to, for the law FnExactGen. Each under the conditions that it names. -/
import Derived.Test.YtijgokehlicmnaaEFnExactGen
namespace Go.Proofs.Ytijgokehlicmnaa.GFnExactGen
open Go Go.Rsc Go.Proofs.Ytijgokehlicmnaa
set_option maxRecDepth 100000
set_option linter.unusedVariables false
set_option linter.unusedSimpArgs false
theorem wrap_rng (x : Int) : -9223372036854775808 ≤ IntKind.i64.wrap x ∧ IntKind.i64.wrap x < 9223372036854775808 := by
  have h0 := Int.emod_nonneg x (show (18446744073709551616 : Int) ≠ 0 by decide)
  have h1 := Int.emod_lt_of_pos x (show (0 : Int) < 18446744073709551616 by decide)
  simp [IntKind.wrap, IntKind.bits, IntKind.signed]
  split <;> omega
theorem rt_rng {l : List PV} {at_ : Nat} {op n deep : Int} {nk : Nat} (h : rtB l at_ op n nk deep = true) : -9223372036854775808 ≤ n ∧ n < 9223372036854775808 := by
  have w1 := wrap_rng (deep - 1)
  have w2 := wrap_rng (frB l at_ - 1)
  have w3 := wrap_rng ((l.length : Int) - 1)
  unfold rtB at h
  repeat' (split at h)
  all_goals
    simp only [Bool.and_eq_true, okR, okW, eqI, decide_eq_true_eq, beq_iff_eq] at h
    omega
theorem opV_mk {c n m : Int} (h1 : -9223372036854775808 ≤ c ∧ c < 9223372036854775808) (h2 : -9223372036854775808 ≤ n ∧ n < 9223372036854775808) (h3 : -9223372036854775808 ≤ m ∧ m < 9223372036854775808) : OpV (.agg [.int c, .int n, .int m]) := ⟨c, n, m, rfl, h1, h2, h3⟩
theorem opV_snoc {o : List PV} {q : PV} (h : ∀ x, x ∈ o → OpV x) (hq : OpV q) : ∀ x, x ∈ o ++ [q] → OpV x := fun x hx => by
  rcases List.mem_append.1 hx with h1 | h1
  · exact h x h1
  · simp only [List.mem_singleton] at h1; subst h1; exact hq
theorem fix1_len (o : List PV) (a fl : Nat) : (fix1 o a fl).length = o.length := by simp [fix1]
theorem fix1_opV {o : List PV} {a fl : Nat} (h : ∀ x, x ∈ o → OpV x) (ha : a < o.length) (hl : o.length ≤ 4000000) (hfl : fl = 1 ∨ fl = 2) : ∀ x, x ∈ fix1 o a fl → OpV x := fun x hx => by
  rcases List.mem_or_eq_of_mem_set hx with h1 | h1
  · exact h x h1
  · obtain ⟨c, n, m, e, h1', h2', h3'⟩ := h _ (nth_mem ha)
    rw [e] at h1
    rcases hfl with rfl | rfl
    · subst h1; exact ⟨c, o.length, m, rfl, h1', by omega, h3'⟩
    · subst h1; exact ⟨c, n, o.length, rfl, h1', h2', by omega⟩
theorem arB_facts {op : Int} {nk : Nat} (h : arB op nk = true) : (1 ≤ op ∧ op ≤ 19) ∧ (op = 1 ∨ op = 2 ∨ op = 3 ∨ op = 4 ∨ op = 19 → nk = 0) ∧ (op = 7 → nk = 2) ∧ (op = 8 ∨ op = 17 ∨ op = 18 → nk = 3) := by
  simp only [arB, Bool.and_eq_true] at h
  obtain ⟨h1, h2⟩ := h
  have hr := okR_in h1
  refine ⟨hr, fun e => ?_, fun e => ?_, fun e => ?_⟩
  · rcases e with rfl | rfl | rfl | rfl | rfl <;> simpa [arS, geI, neI] using h2
  · subst e; simp [arS, geI, neI] at h2; omega
  · rcases e with rfl | rfl | rfl <;> simp [arS, geI, neI] at h2 <;> omega
theorem genAt {l : List PV} {at_ : Nat} {deep : Int} {s : Nat} {x : PV} (h : GoodIr l at_ deep s x) : GenAt x s deep := by
  induction h with
  | @mk op n ks deep sf ha hr hp hg ih =>
  intro out sl d hs hsl hv hd hds ho hops
  obtain ⟨hop, k0, k2, k3⟩ := arB_facts ha
  have hnr := rt_rng hr
  have hrng : ∀ v : Int, -100000 ≤ v → v ≤ 100000 → -9223372036854775808 ≤ v ∧ v < 9223372036854775808 := fun v h1 h2 => ⟨by omega, by omega⟩
  by_cases c7 : op = 7
  · subst c7
    have e2 := k2 rfl
    match ks, e2, sf, hp, hg, ih, hds, ho, hr, ha, hsl with
    | [x0, x1], _, sf, hp, hg, ih, hds, ho, hr, ha, hsl =>
      have hsum : sumN sf [x0, x1].length = sf 0 + sf 1 := by simp [sumN]
      rw [hsum] at hds ho hsl ⊢
      have i0 : GenAt x0 (sf 0) deep := by simpa [bit] using ih 0 (by simp)
      have i1 : GenAt x1 (sf 1) (deep + 1) := by simpa [bit] using ih 1 (by simp)
      push_cast at hds
      obtain ⟨o1, h0⟩ := i0 out sl d hs (by omega) hv hd (by omega) (by omega) hops
      have l0 := h0.le
      have g0 := h0.ge
      obtain ⟨o2, h1⟩ := i1 o1 (sl ++ [d]) (d + 1) (by simp; omega) (by simp; omega) (fun v hm => by
        rcases List.mem_append.1 hm with h | h
        · exact hv v h
        · simp only [List.mem_singleton] at h; omega) (by omega) (by omega) (by omega) h0.ops
      have l1 := h1.le
      have g1 := h1.ge
      refine ⟨o2 ++ [.agg [.int 20, .int 0, .int 0]], by simp; omega, by simp; omega, opV_snoc h1.ops (opV_mk (by decide) (by decide) (by decide)), let_spec hd (by omega) (by omega) (by omega) h0 h1, let_impl hd (by omega) (by omega) (by omega) h0 h1⟩
  by_cases c8 : op = 8 ∨ op = 17 ∨ op = 18
  · have e3 := k3 c8
    match ks, e3, sf, hp, hg, ih, hds, ho, hr, ha, hsl with
    | [x0, x1, x2], _, sf, hp, hg, ih, hds, ho, hr, ha, hsl =>
      have hsum : sumN sf [x0, x1, x2].length = sf 0 + sf 1 + sf 2 := by simp [sumN]
      rw [hsum] at hds ho hsl ⊢
      have i0 : GenAt x0 (sf 0) deep := by simpa [bit, c7] using ih 0 (by simp)
      have i1 : GenAt x1 (sf 1) deep := by simpa [bit, c7] using ih 1 (by simp)
      have i2 : GenAt x2 (sf 2) deep := by simpa [bit, c7] using ih 2 (by simp)
      have hn8 : op = 8 → n = 0 := fun e => by subst e; simpa [rtB, eqI] using hr
      push_cast at hds
      obtain ⟨o1, h0⟩ := i0 out sl d hs (by omega) hv hd (by omega) (by omega) hops
      have l0 := h0.le
      have g0 := h0.ge
      have hco : -9223372036854775808 ≤ codeOf op ∧ codeOf op < 9223372036854775808 := by rcases c8 with rfl | rfl | rfl <;> decide
      have hfl : fldOf op = 1 ∨ fldOf op = 2 := by rcases c8 with rfl | rfl | rfl <;> decide
      obtain ⟨o2, h1⟩ := i1 (o1 ++ [.agg [.int (codeOf op), .int n, .int 0]]) sl d hs (by omega) hv hd (by omega) (by simp; omega) (opV_snoc h0.ops (opV_mk hco hnr (by decide)))
      have l1 := h1.le
      have g1 := h1.ge
      simp at l1 g1
      have hL : (o2 ++ [PV.agg [.int 19, .int 0, .int 0]]).length = o2.length + 1 := by simp
      have hp2 := fix1_opV (a := o1.length) (opV_snoc h1.ops (opV_mk (c := 19) (n := 0) (m := 0) (by decide) (by decide) (by decide))) (by omega) (by omega) hfl
      obtain ⟨o3, h2⟩ := i2 (fix1 (o2 ++ [.agg [.int 19, .int 0, .int 0]]) o1.length (fldOf op)) sl d hs (by omega) hv hd (by omega) (by rw [fix1_len]; omega) hp2
      have l2 := h2.le
      have g2 := h2.ge
      rw [fix1_len] at l2 g2
      refine ⟨fix1 o3 o2.length 1, by rw [fix1_len]; omega, by rw [fix1_len]; omega, fix1_opV h2.ops (by omega) (by omega) (.inl rfl), br_spec c8 hn8 (by omega) (by omega) (by omega) (by omega) h0 h1 h2, br_impl c8 (by omega) (by omega) (by omega) (by omega) h0 h1 h2⟩
  · have hb : ∀ i, bit op i = 0 := fun i => by simp [bit, c7]
    have hih : ∀ i, i < ks.length → GenAt (nth ks i) (sf i) deep := fun i hi => by have := ih i hi; rwa [hb, Int.add_zero] at this
    have h2r : op = 2 → 0 ≤ n ∧ n < sl.length := fun e => by
      subst e
      have hr2 : okR n 0 (IntKind.i64.wrap (deep - 1)) = true := by simpa [rtB] using hr
      have := okR_in hr2
      rw [wrap64 (by omega) (by omega)] at this
      omega
    have h4 : op = 4 → n = 0 := fun e => by subst e; simp [rtB, eqI] at hr; exact hr.1
    have hplain : plainOp op := by unfold plainOp; omega
    have hput : OpV (putOf sl op n ks.length) := by
      have hkl : ks.length ≤ 100000 := by have := sumN_ge ks.length hp; omega
      unfold putOf
      split
      · rename_i e
        obtain ⟨b1, b2⟩ := h2r e
        obtain ⟨v, hv1, hv2⟩ := List.mem_map.1 (nth_mem (l := sl.map PV.int) (i := n.toNat) (by rw [map_lenG]; omega))
        rw [← hv2]
        have := hv v hv1
        exact opV_mk (by decide) (by omega) (by decide)
      split
      · exact opV_mk (by omega) hnr (by decide)
      split
      · exact opV_mk (by decide) hnr (by omega)
      split
      · exact opV_mk (by decide) hnr (by omega)
      split
      · exact opV_mk (by decide) (by decide) (by decide)
      split
      · exact opV_mk (by decide) (by decide) (by decide)
      split
      · exact opV_mk (by decide) hnr (by decide)
      split
      · exact opV_mk (by decide) (by decide) (by decide)
      · exact opV_mk (by omega) (by decide) (by decide)
    by_cases hleaf : op = 1 ∨ op = 2 ∨ op = 3 ∨ op = 4 ∨ op = 19
    · have e0 := k0 hleaf
      have q4 : Evt fun N => loopEv (L136_0 (ev Try.prog sg N) N) N [.int 0, .int d, intsG sl, .agg [.list out], .agg [.int op, .int n, .list ks]] = some (.x 1, [intsG sl, .agg [.list out], .agg [.int op, .int n, .list ks]]) := (Evt.ge 1).mp fun k hk => by
        obtain ⟨m, hm⟩ : ∃ m', k = m' + 1 := ⟨k - 1, by omega⟩
        have hB : L136_0 (ev Try.prog sg k) k [.int 0, .int d, intsG sl, .agg [.list out], .agg [.int op, .int n, .list ks]] = some (.x 1, [intsG sl, .agg [.list out], .agg [.int op, .int n, .list ks]]) := by simp (disch := omega) [L136_0, ltF, e0]
        have hl : ∀ f : List PV → Option (Ex × List PV), loopEv f k = loopEv f (m + 1) := fun f => by rw [hm]
        rw [hl]
        simp only [loopEv, hB, thenN_x, passE_eq]
      exact ⟨out ++ [putOf sl op n ks.length], by simp; omega, by simp, opV_snoc hops hput, plain_spec hplain (by omega) h2r q4, leaf_impl hleaf (by omega) h2r h4⟩
    obtain ⟨o1, a1, a2, a3, a4, a5⟩ := kids_loop (op := op) (n := n) hp hih hs hsl hv hd hds ks.length 0 out (by omega) (by simp only [sumN]; omega) hops
    simp only [sumN, Nat.sub_zero] at a1
    have hge := sumN_ge ks.length hp
    have q4 : Evt fun N => loopEv (L136_0 (ev Try.prog sg N) N) N [.int 0, .int d, intsG sl, .agg [.list out], .agg [.int op, .int n, .list ks]] = some (.x 1, [intsG sl, .agg [.list o1], .agg [.int op, .int n, .list ks]]) := (a4.and (Evt.ge (ks.length + 1))).mp fun k h => h.1 k h.2
    have q5 : Evt fun N => loopEv (L184_0 (ev Try.prog sg N) N) N [.int 0, .int ks.length, .list ks, .int d, .agg [.list out, intsG sl]] = some (.x 0, [.agg [.list o1, intsG sl]]) := (a5.and (Evt.ge (ks.length + 1))).mp fun k h => h.1 k h.2
    refine ⟨o1 ++ [putOf sl op n ks.length], by simp; omega, by simp; omega, opV_snoc a3 hput, plain_spec hplain (by omega) h2r q4, ?_⟩
    exact plain_impl (by unfold plainOp at hplain; omega) (by omega) (plain_kids (by omega) q5)
/-! ### Gen -/
def FunV (q : PV) : Prop := ∃ (f : Int) (ops : List PV), q = .agg [.int f, .list ops] ∧ ops.length ≤ 20000 ∧ ∀ o, o ∈ ops → OpV o
theorem FunV.ok {q : PV} (h : FunV q) : FunOk q := by
  obtain ⟨f, ops, rfl, hl, ho⟩ := h
  exact ⟨f, ops, rfl, by omega, fun o hm => by obtain ⟨c, n, m, e, _⟩ := ho o hm; exact ⟨c, n, m, e⟩⟩
theorem body_made {l : List PV} {i : Nat} {s : Nat} {x : PV} (h : GoodIr l i 1 s x) (hs : s ≤ 4000) : ∃ ops, ops.length ≤ 20000 ∧ (∀ o, o ∈ ops → OpV o) ∧
    (∃ o1, o1.length ≤ 4000000 ∧ ops = o1 ++ [.agg [.int 7, .int 0, .int 0]] ∧ Rn 136 [.agg [.list []], x, .list [.int 0], .int 1] [.agg [.list o1]] ∧ Rn 140 [.agg [.list [], .list [.int 0]], x, .int 1] [.agg [.list o1, .list [.int 0]]]) := by
  obtain ⟨o1, hm⟩ := genAt h [] [0] 1 rfl (by simp; omega) (by simp) (by decide) (by omega) (by simp; omega) (by simp)
  have hl := hm.le
  simp at hl
  exact ⟨o1 ++ [.agg [.int 7, .int 0, .int 0]], by simp; omega, opV_snoc hm.ops (opV_mk (by decide) (by decide) (by decide)), o1, by omega, rfl, hm.spec, hm.impl⟩
theorem gen {W : PV → Prop} (hT : IrSh W) {l : List PV} (hl : l.length ≤ 1048576) (hb : ∀ q, q ∈ l → BlkSh W q) : ∃ (out : List PV) (ok : Bool), out.length ≤ 60 ∧ (∀ q, q ∈ out → FunV q) ∧ (∀ q, q ∈ out → ∃ i, i < l.length ∧ q.fld 0 = (nth l i).fld 0) ∧
    Rn 65 [.list l] [.list out, .bool ok] ∧ Rn 63 [.list l] [.list out, .bool ok] := by
  obtain ⟨b, ⟨hI, hS⟩, hgood⟩ := blocks hT hl hb
  cases b with
  | false => exact ⟨[], false, by simp, by simp, by simp, Is.of e65 (hI.mp fun k q => by simp [F65, q]), Is.of e63 (hS.mp fun k q => by simp [F63, q])⟩
  | true =>
  obtain ⟨hlen, _, hall⟩ := hgood rfl
  have hr := okR_in hlen
  have hex : ∀ i : Nat, ∃ ops : List PV, i < l.length → ops.length ≤ 20000 ∧ (∀ o, o ∈ ops → OpV o) ∧ (∃ o1, o1.length ≤ 4000000 ∧ ops = o1 ++ [.agg [.int 7, .int 0, .int 0]] ∧ Rn 136 [.agg [.list []], (nth l i).fld 1, .list [.int 0], .int 1] [.agg [.list o1]] ∧ Rn 140 [.agg [.list [], .list [.int 0]], (nth l i).fld 1, .int 1] [.agg [.list o1, .list [.int 0]]]) := fun i => by
    by_cases hi : i < l.length
    · obtain ⟨_, s, bb, hR, h4, h1⟩ := hall i hi
      obtain ⟨ops, h⟩ := body_made (hR.good 1 h1) h4
      exact ⟨ops, fun _ => h⟩
    · exact ⟨[], fun h => absurd h hi⟩
  obtain ⟨of, hof⟩ := Classical.axiomOfChoice hex
  let mk : Nat → PV := fun i => .agg [.int (frB l i), .list (of i)]
  let acc : Nat → List PV := fun i => (List.range i).map mk
  have hacc : ∀ i, acc (i + 1) = acc i ++ [mk i] := fun i => by simp [acc, List.range_succ]
  have hal : ∀ i, (acc i).length = i := fun i => by simp [acc]
  have hmem : ∀ q, q ∈ acc l.length → ∃ i, i < l.length ∧ q = mk i := fun q hq => by
    obtain ⟨i, h1, h2⟩ := List.mem_map.1 hq
    exact ⟨i, by simpa using h1, h2.symm⟩
  have hV : ∀ q, q ∈ acc l.length → FunV q := fun q hq => by
    obtain ⟨i, hi, rfl⟩ := hmem q hq
    exact ⟨_, _, rfl, (hof i hi).1, (hof i hi).2.1⟩
  have hlI := loop_run (body := fun k => L65_0 (ev Try.prog sg k) k) (e := .x 0) (res := [.list (acc l.length)]) (fun i => [.int i, .int l.length, .list l, .list (acc i)]) l.length (fun i hi => ?_) (Evt.all fun k => ?_) (by simp)
  have hlS := loop_run (body := fun k => L63_0 (ev Try.prog sg k) k) (e := .x 0) (res := [.list (acc l.length)]) (fun i => [.int i, .list l, .list (acc i)]) l.length (fun i hi => ?_) (Evt.all fun k => ?_) (by simp)
  · have h44 := fun44 (l := acc l.length) (by rw [hal]; omega) fun q hq => (hV q hq).ok
    have h41 := fun41 (l := acc l.length) (by rw [hal]; omega) fun q hq => (hV q hq).ok
    have e0 : acc 0 = [] := rfl
    simp only [show ((0 : Nat) : Int) = 0 from rfl, e0] at hlI hlS
    cases hk : funsOk (acc l.length) with
    | false =>
      rw [hk] at h44 h41
      exact ⟨[], false, by simp, by simp, by simp, Is.of e65 (hI.mp3 hlI h44 fun k q1 q2 q3 => by simp [F65, q1, q2, q3]), Is.of e63 (hS.mp3 hlS h41 fun k q1 q2 q3 => by simp [F63, q1, q2, q3])⟩
    | true =>
      rw [hk] at h44 h41
      refine ⟨acc l.length, true, by rw [hal]; omega, hV, fun q hq => ?_, Is.of e65 (hI.mp3 hlI h44 fun k q1 q2 q3 => by simp [F65, q1, q2, q3]), Is.of e63 (hS.mp3 hlS h41 fun k q1 q2 q3 => by simp [F63, q1, q2, q3])⟩
      obtain ⟨i, hi, rfl⟩ := hmem q hq
      obtain ⟨f, bd, e, _⟩ := hb _ (nth_mem hi)
      exact ⟨i, hi, by simp [mk, frB, e]⟩
  · obtain ⟨_, _, o1, b1, b2, b3, b4⟩ := hof i hi
    obtain ⟨f, bd, e, _⟩ := hb _ (nth_mem hi)
    have hf0 : (nth l i).fld 0 = .int (frB l i) := by simp [frB, e]
    have hli := hal i
    refine (b3).mp2 (putS b1 (.int 7) (.int 0) (.int 0)) fun k q1 q2 => ?_
    rw [hacc]
    simp (disch := omega) [L63_0, ltT, geT, leNT, q1, q2, hf0, wrap64, hli, mk, b2]
  · simp (disch := omega) [L63_0, ltF]
  · obtain ⟨_, _, o1, b1, b2, b3, b4⟩ := hof i hi
    obtain ⟨f, bd, e, _⟩ := hb _ (nth_mem hi)
    have hf0 : (nth l i).fld 0 = .int (frB l i) := by simp [frB, e]
    have hli := hal i
    refine (b4).mp2 (putI b1 (.list [.int 0]) (.int 7) (.int 0) (.int 0)) fun k q1 q2 => ?_
    rw [hacc]
    simp (disch := omega) [L65_0, ltT, geT, leNT, q1, q2, hf0, wrap64, hli, mk, b2]
  · simp (disch := omega) [L65_0, ltF]
end Go.Proofs.Ytijgokehlicmnaa.GFnExactGen
