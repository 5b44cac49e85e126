/- What functions of the program and of the reference come to, for the law FnExactVerify. Each under the conditions that it names. -/
import Derived.Test.YtfnhimhmhinjdaaHFnExactVerify
namespace Go.Proofs.Ytfnhimhmhinjdaa.GFnExactVerify
open Go Go.Rsc Go.Proofs.Ytfnhimhmhinjdaa
set_option maxRecDepth 100000
set_option linter.unusedVariables false
set_option linter.unusedSimpArgs false
theorem outerS {ops fs : List PV} {i : Nat} {free : PV} (g : OpsGood ops) (hi : i < fs.length) (hq : nth fs i = .agg [free, .list ops]) : ∀ (μ : Nat) (D T : List Int), InvS ops D T → unset D + T.length ≤ 3000 → unset D + (unset D + T.length) ≤ μ →
    (∃ D', InvS ops D' [] ∧ Evt fun n => ∀ m, μ + 2 ≤ m → loopEv (L24_1 (ev Try.prog sg n) n) m [.list fs, .int i, stS D T true] = some (.x 2, [stS D' [] true])) ∨
    (NoSolS ops ∧ ∃ D' T', Evt fun n => ∀ m, μ + 2 ≤ m → loopEv (L24_1 (ev Try.prog sg n) n) m [.list fs, .int i, stS D T true] = some (.x 2, [stS D' T' false])) := by
  intro μ
  induction μ using Nat.strongRecOn with
  | ind μ ih =>
  intro D T hv hu hm
  rcases List.eq_nil_or_concat T with rfl | ⟨T0, t, rfl⟩
  · refine .inl ⟨D, hv, Evt.all fun n m hm => ?_⟩
    obtain ⟨m, rfl⟩ : ∃ m', m = m' + 1 := ⟨m - 1, by omega⟩
    have hB : L24_1 (ev Try.prog sg n) n [.list fs, .int i, stS D [] true] = some (.x 2, [stS D [] true]) := by simp (disch := omega) [L24_1, gtF]
    simp only [loopEv, hB, thenN_x, passE_eq]
  rw [List.concat_eq_append] at hv hu hm ⊢
  obtain ⟨k, rfl, hk, hd⟩ := hv.todo t (by simp)
  have hp := hv.pop hk
  have hu' : unset D + T0.length + 1 ≤ 3000 := by simp at hu; omega
  have hm' : unset D + (unset D + T0.length) + 1 ≤ μ := by simp at hm; omega
  have hone := oneS g hk hp hd (by omega)
  have hbody : ∀ (n : Nat) (r : PV), ev Try.prog sg n 53 [stS D T0 true, .list ops, .int k] = some [r] → L24_1 (ev Try.prog sg n) n [.list fs, .int i, stS D (T0 ++ [(k : Int)]) true] = some (.n, [.list fs, .int i, r]) := fun n r q1 => by
    obtain ⟨tl, hT⟩ : ∃ tl, tl = T0.map PV.int := ⟨_, rfl⟩
    have hst : stS D (T0 ++ [(k : Int)]) true = .agg [ints D, .list (tl ++ [.int k]), .bool true] := by rw [hT]; simp
    have hst2 : stS D T0 true = .agg [ints D, .list tl, .bool true] := by rw [hT]
    have htl : tl.length = T0.length := by rw [hT]; exact map_len T0
    rw [hst2] at q1
    rw [hst]
    have hL : (tl ++ [PV.int k]).length = tl.length + 1 := by simp
    have hW : IntKind.i64.wrap (((tl ++ [PV.int k]).length : Int) - 1) = (tl.length : Int) := by rw [wrap64 (by omega) (by omega)]; omega
    have e1 := nth_end tl (.int k)
    have e2 := take_end tl (.int k)
    simp (disch := omega) only [L24_1, nth_0, nth_1, nth_2, fld_agg, sf0, sf1, sf2, toInt_int, toList_list, hW, Int.toNat_natCast, e1, e2, hq, q1, Option.bind_some, gtT, geT, ltT, leT, leNT, List.length_nil, Nat.zero_add, List.nil_append, iff_true', iff_false', selB_true, selB_false, isB_bool, toBool_bool, beq_self_eq_true]
  rcases hone with ⟨D', T', k1, k2, k3, k4⟩ | ⟨k1, D', T', k2⟩
  · rcases ih (unset D' + (unset D' + T'.length)) (by omega) D' T' k1 (by omega) (Nat.le_refl _) with ⟨D'', j1, j2⟩ | ⟨j1, D2, T2, j2⟩
    · refine .inl ⟨D'', j1, Evt.mp2 k4 j2 fun n q1 q2 m hm => ?_⟩
      obtain ⟨m, rfl⟩ : ∃ m', m = m' + 1 := ⟨m - 1, by omega⟩
      simp only [loopEv, hbody n _ q1, thenN_n]
      exact q2 m (by omega)
    · refine .inr ⟨j1, D2, T2, Evt.mp2 k4 j2 fun n q1 q2 m hm => ?_⟩
      obtain ⟨m, rfl⟩ : ∃ m', m = m' + 1 := ⟨m - 1, by omega⟩
      simp only [loopEv, hbody n _ q1, thenN_n]
      exact q2 m (by omega)
  · refine .inr ⟨k1, D', T', k2.mp fun n q1 m hm => ?_⟩
    obtain ⟨m, rfl⟩ : ∃ m', m = m' + 2 := ⟨m - 2, by omega⟩
    have hB : L24_1 (ev Try.prog sg n) n [.list fs, .int i, stS D' T' false] = some (.x 2, [stS D' T' false]) := by simp (disch := omega) [L24_1]
    simp only [loopEv, hbody n _ q1, thenN_n, hB, thenN_x, passE_eq]

/-! ### Where it starts -/
theorem gd_fresh (N k : Nat) : gd (List.replicate N (-1)) k = -1 := by
  unfold gd
  simp only [List.getD_eq_getElem?_getD, List.getElem?_replicate]
  split <;> rfl
theorem gd_start {N : Nat} (hN : 1 ≤ N) (k : Nat) : gd ((List.replicate N (-1 : Int)).set 0 1) k = if k = 0 then 1 else -1 := by
  rw [gd_set _ _ _ _ (by simp; omega), gd_fresh]
theorem unset_start {N : Nat} (hN : 1 ≤ N) : unset ((List.replicate N (-1 : Int)).set 0 1) + 1 = N := by
  rw [unset_set _ 0 1 (by simp; omega) (gd_fresh N 0) (by decide)]
  simp [unset]
theorem Inv.start {N : Nat} (hN : 1 ≤ N) (chk : Nat → Int → Prop) (nx : Nat → List Int) (bh : Nat → Int → Int) : Inv N chk nx bh ((List.replicate N (-1 : Int)).set 0 1) [0] where
  len := by simp
  zero := gd_start hN 0
  rng := fun k hk => by
    rw [gd_start hN]; split
    · exact .inr ⟨by omega, by omega⟩
    · exact .inl rfl
  todo := fun t ht => by
    simp only [List.mem_singleton] at ht
    exact ⟨0, ht, by omega, by rw [gd_start hN]; decide⟩
  forced := fun E he k hk hd => by
    rw [gd_start hN] at hd ⊢
    split at hd
    · rename_i e; subst e; simpa using he.zero
    · exact absurd rfl hd
  closed := fun k hk hd => by
    rw [gd_start hN] at hd
    split at hd
    · rename_i e; subst e; exact .inl (by simp)
    · exact absurd rfl hd

/-! ### What the first check gives -/
theorem opB_facts {l : List PV} {free at_ c n m : Int} {len : Nat} (hl : l.length ≤ 1048576) (h1 : 1 ≤ len) (h2 : len ≤ 3000) (h : opB l free len at_ c n m = true) :
    1 ≤ c ∧ c ≤ 21 ∧ (c = 8 → 0 ≤ m ∧ m ≤ 20) ∧ (c = 5 → 1 ≤ n ∧ n < l.length ∧ m = ((nth l n.toNat).fld 0).toInt) ∧ (c = 18 ∨ c = 19 → 0 ≤ n ∧ n < len) ∧ (c = 10 ∨ c = 11 → 0 ≤ m ∧ m < len) := by
  have w1 : IntKind.i64.wrap ((len : Int) - 1) = (len : Int) - 1 := wrap64 (by omega) (by omega)
  have w2 := wrap_len l hl
  simp only [opB, w1, w2] at h
  repeat' (split at h)
  all_goals
    simp only [Bool.and_eq_true, okR, eqI, decide_eq_true_eq, beq_iff_eq] at h
    omega
theorem okF_good {l ops : List PV} {free : Int} {i : Nat} (hl : l.length ≤ 1048576) (hall : ∀ j, j < l.length → 0 ≤ ((nth l j).fld 0).toInt ∧ ((nth l j).fld 0).toInt ≤ 20) (hi : i < l.length) (hq : nth l i = .agg [.int free, .list ops]) (he : ∀ o, o ∈ ops → ∃ c n m : Int, o = .agg [.int c, .int n, .int m]) (h : okF l i = true) : OpsGood ops := by
  simp only [okF, hq, fld_agg, nth_0, nth_1, toInt_int, toList_list, Bool.and_eq_true] at h
  obtain ⟨c1, c2, c3, c4⟩ := h
  have r2 := okR_in c2
  have hf : ∀ k, k < ops.length → _ := fun k hk => opB_facts (len := ops.length) (free := free) (at_ := (i : Int)) (c := opc ops k) (n := opn ops k) (m := opm ops k) hl (by omega) (by omega) (by
    have := List.all_eq_true.1 c3 k (by simpa using hk)
    first | exact this | simpa [opV, opc, opn, opm] using this)
  have heff : ∀ k, k < ops.length → 0 ≤ effT (opc ops k) (opm ops k) ∧ effT (opc ops k) (opm ops k) ≤ 20 := fun k hk => by
    obtain ⟨_, _, g8, g5, _, _⟩ := hf k hk
    unfold effT
    split
    · omega
    split
    · rename_i e
      rcases e with e | e
      · obtain ⟨a1, a2, a3⟩ := g5 e
        have := hall (opn ops k).toNat (by omega)
        rw [← a3] at this
        exact this
      · exact g8 e
    split
    · omega
    split <;> omega
  refine ⟨by omega, by omega, fun k hk => ⟨?_, (hf k hk).1, (hf k hk).2.1⟩, heff, fun k s hk hs => ?_⟩
  · obtain ⟨c, n, m, e⟩ := he _ (nth_mem hk)
    simp [opc, opn, opm, e]
  · obtain ⟨g1, g2, g8, g5, gn, gm⟩ := hf k hk
    have hlast : k + 1 = ops.length → opc ops k = 7 ∨ opc ops k = 19 ∨ opc ops k = 21 := fun e => by
      have e2 : ops.length - 1 = k := by omega
      rw [e2] at c4
      have c4 : lastB (opc ops k) = true := c4
      simpa [lastB, eqI] using c4
    unfold nxD nxt at hs
    split at hs
    · simp at hs
    split at hs
    · simp only [List.mem_singleton] at hs; subst hs
      exact gn (by omega)
    split at hs
    · simp only [List.mem_cons, List.not_mem_nil, or_false] at hs
      have := gn (by omega)
      omega
    split at hs
    · simp only [List.mem_cons, List.not_mem_nil, or_false] at hs
      have := gm (by omega)
      omega
    · simp only [List.mem_singleton] at hs
      omega
end Go.Proofs.Ytfnhimhmhinjdaa.GFnExactVerify
