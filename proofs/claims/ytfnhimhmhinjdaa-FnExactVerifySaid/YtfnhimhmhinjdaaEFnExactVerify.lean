/- What functions of the program and of the reference come to, for the law FnExactVerify. Each under the conditions that it names. -/
import Derived.Test.YtfnhimhmhinjdaaDFnExactVerify
namespace Go.Proofs.Ytfnhimhmhinjdaa.GFnExactVerify
open Go Go.Rsc Go.Proofs.Ytfnhimhmhinjdaa
set_option maxRecDepth 100000
set_option linter.unusedVariables false
set_option linter.unusedSimpArgs false
theorem nx_len (ops : List PV) (k : Nat) : (nxD ops k).length ≤ 2 := by
  unfold nxD nxt; split <;> (try split) <;> (try split) <;> (try split) <;> simp
theorem map_len (l : List Int) : (l.map PV.int).length = l.length := List.length_map ..

theorem outerI {ops : List PV} (g : OpsGood ops) : ∀ (μ : Nat) (D T : List Int), InvI ops D T → unset D + T.length ≤ 3000 → unset D + (unset D + T.length) ≤ μ →
    (∃ D', InvI ops D' [] ∧ Evt fun n => ∀ m, μ + 1 ≤ m → loopEv (L25_2 (ev Try.prog sg n) n) m [ints T, .list ops, ints D] = some (.x 2, [ints D'])) ∨
    (NoSol ops ∧ Evt fun n => ∀ m, μ + 1 ≤ m → loopEv (L25_2 (ev Try.prog sg n) n) m [ints T, .list ops, ints D] = some (.r, [.list [], .bool false])) := by
  intro μ
  induction μ using Nat.strongRecOn with
  | ind μ ih =>
  intro D T hi hu hm
  rcases List.eq_nil_or_concat T with rfl | ⟨T0, t, rfl⟩
  · refine .inl ⟨D, hi, Evt.all fun n m hm => ?_⟩
    obtain ⟨m, rfl⟩ : ∃ m', m = m' + 1 := ⟨m - 1, by omega⟩
    have hB : L25_2 (ev Try.prog sg n) n [ints [], .list ops, ints D] = some (.x 2, [ints D]) := by simp (disch := omega) [L25_2, gtF]
    simp only [loopEv, hB, thenN_x, passE_eq]
  rw [List.concat_eq_append] at hi hu hm ⊢
  obtain ⟨k, rfl, hk, hd⟩ := hi.todo t (by simp)
  have hr := (hi.rng k hk).resolve_left hd
  have hp := hi.pop hk
  have hlD := hi.len
  obtain ⟨hop, hc1, hc21⟩ := g.op k hk
  obtain ⟨he0, he20⟩ := g.eff k hk
  have hP := effP_01 (opc ops k)
  have hlen3 := g.len
  have hu' : unset D + T0.length + 1 ≤ 3000 := by simp at hu; omega
  have hm' : unset D + (unset D + T0.length) + 1 ≤ μ := by simp at hm; omega
  have hE : Rn 55 [nth ops k] [.int (effT (opc ops k) (opm ops k)), .int (effP (opc ops k))] := by rw [hop]; exact effI _ _ hc1 hc21
  have hN : Rn 56 [nth ops k, .int k] [.list ((nxD ops k).map PV.int)] := by
    have := nxtI (opn ops k) (opm ops k) k (by omega) hc1 hc21
    rw [hop]; exact this
  obtain ⟨tl, hT⟩ : ∃ tl, tl = T0.map PV.int := ⟨_, rfl⟩
  have hst : ints (T0 ++ [(k : Int)]) = .list (tl ++ [.int k]) := by rw [hT]; simp
  have htl : tl.length = T0.length := by rw [hT]; exact map_len T0
  rw [hst]
  have hL : (tl ++ [PV.int k]).length = tl.length + 1 := by simp
  have hW : IntKind.i64.wrap (((tl ++ [PV.int k]).length : Int) - 1) = (tl.length : Int) := by rw [wrap64 (by omega) (by omega)]; omega
  have e1 := nth_end tl (.int k)
  have e2 := take_end tl (.int k)
  have hD := nth_map (D := D) (k := k) (by omega)
  have hlm := map_len D
  have c0 : ((nth ops k).fld 0).toInt = opc ops k := rfl
  have n0 : ((nth ops k).fld 1).toInt = opn ops k := rfl
  have w1 : IntKind.i64.wrap (gd D k - 1) = gd D k - 1 := wrap64 (by omega) (by omega)
  have w2 : IntKind.i64.wrap (IntKind.i64.wrap (gd D k - effT (opc ops k) (opm ops k)) + effP (opc ops k)) = bhD ops k (gd D k) := by
    rw [wrap64 (x := gd D k - effT (opc ops k) (opm ops k)) (by omega) (by omega), wrap64 (by omega) (by omega)]; rfl
  by_cases hc : chkD ops k (gd D k)
  · have hc' := hc
    obtain ⟨a1, a2, a3, a4⟩ := hc'
    have hb60 : bhD ops k (gd D k) ≤ 60 := a4
    have hfuel := nx_len ops k
    have key := innerI g hk hd hc (nxD ops k) [] D T0 rfl hp (by omega)
    have hbody : ∀ (n : Nat) (r : Option (Ex × List PV)), ev Try.prog sg n 55 [nth ops k] = some [.int (effT (opc ops k) (opm ops k)), .int (effP (opc ops k))] → ev Try.prog sg n 56 [nth ops k, .int k] = some [.list ((nxD ops k).map PV.int)] →
        loopEv (L25_1 (ev Try.prog sg n) n) n [.int 0, .int (nxD ops k).length, .list ((nxD ops k).map PV.int), .int (bhD ops k (gd D k)), .list tl, .list ops, ints D] = r →
        L25_2 (ev Try.prog sg n) n [.list (tl ++ [.int k]), .list ops, ints D] = thenN (thenE r (passB 4)) (fun p10 => (some (Ex.n, [(nth p10 0), (nth p10 1), (nth p10 2)]))) passE := fun n r q1 q2 q3 => by
      by_cases x2 : opc ops k = 2
      · have : ¬ gd D k ≤ opn ops k := fun h => a2 ⟨x2, h⟩
        simp (disch := omega) only [L25_2, nth_0, nth_1, nth_2, toInt_int, toList_list, hW, Int.toNat_natCast, e1, e2, hD, c0, n0, w1, w2, q1, q2, q3, Option.bind_some, gtT, gtF, geT, geF, ltT, leT, eqT, eqF, neT, neF, hlm, map_len, iff_true', iff_false', selB_true, selB_false, isB_bool, toBool_bool, beqT, beqF, Bool.not_true, Bool.not_false, beq_self_eq_true]
      by_cases x7 : opc ops k = 7
      · have : gd D k = 2 := Classical.byContradiction fun h => a3 ⟨x7, h⟩
        simp (disch := omega) only [L25_2, nth_0, nth_1, nth_2, toInt_int, toList_list, hW, Int.toNat_natCast, e1, e2, hD, c0, n0, w1, w2, q1, q2, q3, Option.bind_some, gtT, gtF, geT, geF, ltT, leT, eqT, eqF, neT, neF, hlm, map_len, iff_true', iff_false', selB_true, selB_false, isB_bool, toBool_bool, beqT, beqF, Bool.not_true, Bool.not_false, beq_self_eq_true]
      · simp (disch := omega) only [L25_2, nth_0, nth_1, nth_2, toInt_int, toList_list, hW, Int.toNat_natCast, e1, e2, hD, c0, n0, w1, w2, q1, q2, q3, Option.bind_some, gtT, gtF, geT, geF, ltT, leT, eqT, eqF, neT, neF, hlm, map_len, iff_true', iff_false', selB_true, selB_false, isB_bool, toBool_bool, beqT, beqF, Bool.not_true, Bool.not_false, beq_self_eq_true]
    subst hT
    rcases key with ⟨D', T', k1, k2, k3, k4⟩ | ⟨k1, k2⟩
    · have hI := k1.inv hc fun s hs => hs
      rcases ih (unset D' + (unset D' + T'.length)) (by omega) D' T' hI (by omega) (Nat.le_refl _) with ⟨D'', j1, j2⟩ | ⟨j1, j2⟩
      · refine .inl ⟨D'', j1, ((Evt.ge 4).and hE).mp4 hN k4 j2 fun n ⟨q0, q1⟩ q2 q3 q4 m hm => ?_⟩
        obtain ⟨m, rfl⟩ : ∃ m', m = m' + 1 := ⟨m - 1, by omega⟩
        simp only [loopEv, hbody n _ q1 q2 (q3 n (by omega)), thenE_some, passB_same, thenN_n, nth_0, nth_1, nth_2]
        exact q4 m (by omega)
      · refine .inr ⟨j1, ((Evt.ge 4).and hE).mp4 hN k4 j2 fun n ⟨q0, q1⟩ q2 q3 q4 m hm => ?_⟩
        obtain ⟨m, rfl⟩ : ∃ m', m = m' + 1 := ⟨m - 1, by omega⟩
        simp only [loopEv, hbody n _ q1 q2 (q3 n (by omega)), thenE_some, passB_same, thenN_n, nth_0, nth_1, nth_2]
        exact q4 m (by omega)
    · refine .inr ⟨k1, ((Evt.ge 4).and hE).mp3 hN k2 fun n ⟨q0, q1⟩ q2 q3 m hm => ?_⟩
      obtain ⟨m, rfl⟩ : ∃ m', m = m' + 1 := ⟨m - 1, by omega⟩
      simp only [loopEv, hbody n _ q1 q2 (q3 n (by omega)), thenE_some, passB_r, go_r]
  · have hbad := hp.bad hk hd hc
    have hbody : ∀ n : Nat, ev Try.prog sg n 55 [nth ops k] = some [.int (effT (opc ops k) (opm ops k)), .int (effP (opc ops k))] →
        L25_2 (ev Try.prog sg n) n [.list (tl ++ [.int k]), .list ops, ints D] = some (.r, [.list [], .bool false]) := fun n q1 => by
      have hc' : ¬ (effT (opc ops k) (opm ops k) ≤ gd D k - 1 ∧ ¬ (opc ops k = 2 ∧ gd D k ≤ opn ops k) ∧ ¬ (opc ops k = 7 ∧ gd D k ≠ 2) ∧ bhD ops k (gd D k) ≤ 60) := hc
      by_cases b1 : effT (opc ops k) (opm ops k) ≤ gd D k - 1
      rotate_left
      · simp (disch := omega) only [L25_2, nth_0, nth_1, nth_2, toInt_int, toList_list, hW, Int.toNat_natCast, e1, e2, hD, c0, n0, w1, w2, q1, Option.bind_some, gtT, gtF, geT, geF, ltT, leT, eqT, eqF, neT, neF, hlm, map_len, iff_true', iff_false', selB_true, selB_false, isB_bool, toBool_bool, beqT, beqF, Bool.not_true, Bool.not_false, beq_self_eq_true]
      by_cases x2 : opc ops k = 2
      · by_cases b2 : gd D k ≤ opn ops k
        · simp (disch := omega) only [L25_2, nth_0, nth_1, nth_2, toInt_int, toList_list, hW, Int.toNat_natCast, e1, e2, hD, c0, n0, w1, w2, q1, Option.bind_some, gtT, gtF, geT, geF, ltT, leT, eqT, eqF, neT, neF, hlm, map_len, iff_true', iff_false', selB_true, selB_false, isB_bool, toBool_bool, beqT, beqF, Bool.not_true, Bool.not_false, beq_self_eq_true]
        · simp (disch := omega) only [L25_2, nth_0, nth_1, nth_2, toInt_int, toList_list, hW, Int.toNat_natCast, e1, e2, hD, c0, n0, w1, w2, q1, Option.bind_some, gtT, gtF, geT, geF, ltT, leT, eqT, eqF, neT, neF, hlm, map_len, iff_true', iff_false', selB_true, selB_false, isB_bool, toBool_bool, beqT, beqF, Bool.not_true, Bool.not_false, beq_self_eq_true]
      by_cases x7 : opc ops k = 7
      · by_cases b2 : gd D k = 2
        · simp (disch := omega) only [L25_2, nth_0, nth_1, nth_2, toInt_int, toList_list, hW, Int.toNat_natCast, e1, e2, hD, c0, n0, w1, w2, q1, Option.bind_some, gtT, gtF, geT, geF, ltT, leT, eqT, eqF, neT, neF, hlm, map_len, iff_true', iff_false', selB_true, selB_false, isB_bool, toBool_bool, beqT, beqF, Bool.not_true, Bool.not_false, beq_self_eq_true]
        · simp (disch := omega) only [L25_2, nth_0, nth_1, nth_2, toInt_int, toList_list, hW, Int.toNat_natCast, e1, e2, hD, c0, n0, w1, w2, q1, Option.bind_some, gtT, gtF, geT, geF, ltT, leT, eqT, eqF, neT, neF, hlm, map_len, iff_true', iff_false', selB_true, selB_false, isB_bool, toBool_bool, beqT, beqF, Bool.not_true, Bool.not_false, beq_self_eq_true]
      · simp (disch := omega) only [L25_2, nth_0, nth_1, nth_2, toInt_int, toList_list, hW, Int.toNat_natCast, e1, e2, hD, c0, n0, w1, w2, q1, Option.bind_some, gtT, gtF, geT, geF, ltT, leT, eqT, eqF, neT, neF, hlm, map_len, iff_true', iff_false', selB_true, selB_false, isB_bool, toBool_bool, beqT, beqF, Bool.not_true, Bool.not_false, beq_self_eq_true]
    refine .inr ⟨hbad, hE.mp fun n q1 m hm => ?_⟩
    obtain ⟨m, rfl⟩ : ∃ m', m = m' + 1 := ⟨m - 1, by omega⟩
    simp only [loopEv, hbody n q1, go_r]
end Go.Proofs.Ytfnhimhmhinjdaa.GFnExactVerify
