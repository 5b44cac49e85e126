/- What functions of the program and of the reference come to, for the law FnExactVerify. Each under the conditions that it names. -/
import Derived.Test.YtfnhimhmhinjdaaEFnExactVerify
namespace Go.Proofs.Ytfnhimhmhinjdaa.GFnExactVerify
open Go Go.Rsc Go.Proofs.Ytfnhimhmhinjdaa
set_option maxRecDepth 100000
set_option linter.unusedVariables false
set_option linter.unusedSimpArgs false
theorem sf0 (a b c x : PV) : PV.setFld (.agg [a, b, c]) 0 x = .agg [x, b, c] := rfl
theorem sf1 (a b c x : PV) : PV.setFld (.agg [a, b, c]) 1 x = .agg [a, x, c] := rfl
theorem sf2 (a b c x : PV) : PV.setFld (.agg [a, b, c]) 2 x = .agg [a, b, x] := rfl
abbrev stS (D T : List Int) (ok : Bool) : PV := .agg [ints D, ints T, .bool ok]
section
variable {D T : List Int} {ok : Bool}
theorem go_out {s b : Int} (h0 : 0 ≤ s) (h : (D.length : Int) ≤ s ∨ 60 < b) : Rn 52 [stS D T ok, .int s, .int b] [stS D T false] := by
  have hl := map_len D
  refine Is.of e52 (Evt.all fun n => ?_)
  by_cases h1 : (D.length : Int) ≤ s
  · simp (disch := omega) only [F52, stS, ints, nth_0, nth_1, nth_2, fld_agg, sf0, sf1, sf2, toInt_int, toList_list, hl, geT, geF, gtT, gtF, selB_true, selB_false, toBool_bool, iff_true', iff_false', beqT, beqF, Bool.not_true, Bool.not_false]
  · have h2 : 60 < b := h.resolve_left h1
    simp (disch := omega) only [F52, stS, ints, nth_0, nth_1, nth_2, fld_agg, sf0, sf1, sf2, toInt_int, toList_list, hl, geT, geF, gtT, gtF, selB_true, selB_false, toBool_bool, iff_true', iff_false', beqT, beqF, Bool.not_true, Bool.not_false]
theorem go_new {s : Nat} {b : Int} (hs : s < D.length) (hb : b ≤ 60) (h : gd D s < 0) (hT : T.length ≤ 6000) : Rn 52 [stS D T ok, .int s, .int b] [stS (D.set s b) (T ++ [(s : Int)]) ok] := by
  have hl := map_len D
  have hl2 := map_len T
  have hD := nth_map hs
  refine Is.of e52 (Evt.all fun n => ?_)
  simp (disch := omega) only [F52, stS, ints, nth_0, nth_1, nth_2, fld_agg, sf0, sf1, sf2, toInt_int, toList_list, hl, hl2, Int.toNat_natCast, hD, geT, geF, gtT, gtF, ltT, ltF, leNT, List.length_singleton, selB_true, selB_false, toBool_bool, iff_true', iff_false', beqT, beqF, Bool.not_true, Bool.not_false]
  rw [set_map, List.map_append]
  rfl
theorem go_same {s : Nat} {b : Int} (hs : s < D.length) (hb : b ≤ 60) (h : 0 ≤ gd D s) (he : gd D s = b) : Rn 52 [stS D T ok, .int s, .int b] [stS D T ok] := by
  have hl := map_len D
  have hD := nth_map hs
  refine Is.of e52 (Evt.all fun n => ?_)
  simp (disch := omega) only [F52, stS, ints, nth_0, nth_1, nth_2, fld_agg, sf0, sf1, sf2, toInt_int, toList_list, hl, Int.toNat_natCast, hD, geT, geF, gtT, gtF, ltT, ltF, neT, neF, selB_true, selB_false, toBool_bool, iff_true', iff_false', beqT, beqF, Bool.not_true, Bool.not_false]
theorem go_diff {s : Nat} {b : Int} (hs : s < D.length) (hb : b ≤ 60) (h : 0 ≤ gd D s) (he : gd D s ≠ b) : Rn 52 [stS D T ok, .int s, .int b] [stS D T false] := by
  have hl := map_len D
  have hD := nth_map hs
  refine Is.of e52 (Evt.all fun n => ?_)
  simp (disch := omega) only [F52, stS, ints, nth_0, nth_1, nth_2, fld_agg, sf0, sf1, sf2, toInt_int, toList_list, hl, Int.toNat_natCast, hD, geT, geF, gtT, gtF, ltT, ltF, neT, neF, selB_true, selB_false, toBool_bool, iff_true', iff_false', beqT, beqF, Bool.not_true, Bool.not_false]
theorem go_any {s b : Int} (h0 : 0 ≤ s) (hT : T.length ≤ 6000) : ∃ D' T', Rn 52 [stS D T false, .int s, .int b] [stS D' T' false] := by
  obtain ⟨s, rfl⟩ : ∃ k : Nat, s = (k : Int) := ⟨s.toNat, by omega⟩
  by_cases h1 : (D.length : Int) ≤ s ∨ 60 < b
  · exact ⟨_, _, go_out (by omega) h1⟩
  by_cases h2 : gd D s < 0
  · exact ⟨_, _, go_new (by omega) (by omega) h2 hT⟩
  by_cases h3 : gd D s = b
  · exact ⟨_, _, go_same (by omega) (by omega) (by omega) h3⟩
  · exact ⟨_, _, go_diff (by omega) (by omega) (by omega) h3⟩
end
theorem goP {ops : List PV} (g : OpsGood ops) {at_ : Nat} (ha : at_ < ops.length) {d : Int} (hd : d ≠ -1) (hc : chkD ops at_ d) {don D T : List Int} (hp : PInvS ops at_ d don D T) (hu : unset D + T.length ≤ 3000) {s : Int} (hs : s ∈ nxDS ops at_) :
    (∃ D' T', PInvS ops at_ d (don ++ [s]) D' T' ∧ unset D' ≤ unset D ∧ unset D' + T'.length = unset D + T.length ∧ Rn 52 [stS D T true, .int s, .int (bhD ops at_ d)] [stS D' T' true]) ∨
    (NoSolS ops ∧ Rn 52 [stS D T true, .int s, .int (bhD ops at_ d)] [stS D T false]) := by
  obtain ⟨x0, xN⟩ := g.nxS at_ s ha hs
  obtain ⟨s, rfl⟩ : ∃ k : Nat, s = (k : Int) := ⟨s.toNat, by omega⟩
  obtain ⟨p1, p2, p3⟩ := hp.put (chkD_bh ops) g.nxS ha hd hc hs
  have hl := hp.len
  have hb := chkD_bh ops at_ d hc
  have hr := hp.rng s (by omega)
  by_cases h1 : gd D s = -1
  · have hun := unset_set D s (bhD ops at_ d) (by omega) h1 (by omega)
    exact .inl ⟨_, _, p1 h1, by omega, by simp; omega, go_new (by omega) (by omega) (by omega) (by omega)⟩
  by_cases h2 : gd D s = bhD ops at_ d
  · exact .inl ⟨_, _, p2 h2, Nat.le_refl _, rfl, go_same (by omega) (by omega) (by omega) h2⟩
  · exact .inr ⟨p3 h1 h2, go_diff (by omega) (by omega) (by omega) h2⟩
set_option maxHeartbeats 4000000 in
theorem oneS {ops : List PV} (g : OpsGood ops) {k : Nat} (hk : k < ops.length) {D T : List Int} (hp : PInvS ops k (gd D k) [] D T) (hd : gd D k ≠ -1) (hu : unset D + T.length ≤ 3000) :
    (∃ D' T', InvS ops D' T' ∧ unset D' ≤ unset D ∧ unset D' + T'.length = unset D + T.length ∧ Rn 53 [stS D T true, .list ops, .int k] [stS D' T' true]) ∨
    (NoSolS ops ∧ ∃ D' T', Rn 53 [stS D T true, .list ops, .int k] [stS D' T' false]) := by
  have hr := (hp.rng k hk).resolve_left hd
  have hlD := hp.len
  obtain ⟨hop, hc1, hc21⟩ := g.op k hk
  obtain ⟨he0, he20⟩ := g.eff k hk
  have hP := effP_01 (opc ops k)
  have hlen3 := g.len
  have hE : Rn 87 [nth ops k] [.int (effT (opc ops k) (opm ops k)), .int (effP (opc ops k))] := by rw [hop]; exact effS _ _ hc1 hc21
  have hD := nth_map (D := D) (k := k) (by omega)
  have hl := map_len D
  have c0 : ((nth ops k).fld 0).toInt = opc ops k := rfl
  have n0 : ((nth ops k).fld 1).toInt = opn ops k := rfl
  have m0 : ((nth ops k).fld 2).toInt = opm ops k := rfl
  have f1 : (nth ops k).fld 1 = .int (opn ops k) := by rw [hop]; rfl
  have f2 : (nth ops k).fld 2 = .int (opm ops k) := by rw [hop]; rfl
  have w1 : IntKind.i64.wrap (gd D k - 1) = gd D k - 1 := wrap64 (by omega) (by omega)
  have w2 : IntKind.i64.wrap (IntKind.i64.wrap (gd D k - effT (opc ops k) (opm ops k)) + effP (opc ops k)) = bhD ops k (gd D k) := by
    rw [wrap64 (x := gd D k - effT (opc ops k) (opm ops k)) (by omega) (by omega), wrap64 (by omega) (by omega)]; rfl
  have w3 : IntKind.i64.wrap ((k : Int) + 1) = (k : Int) + 1 := wrap64 (by omega) (by omega)
  have hT : T.length ≤ 6000 := by omega
  by_cases b1 : effT (opc ops k) (opm ops k) ≤ gd D k - 1
  rotate_left
  · have hbad := hp.bad hk hd (fun h => b1 h.1)
    refine .inr ⟨hbad, D, T, Is.of e53 (hE.mp fun n q1 => ?_)⟩
    simp (disch := omega) only [F53, stS, ints, nth_0, nth_1, nth_2, nth_3, nth_4, nth_5, fld_agg, sf0, sf1, sf2, toInt_int, toList_list, hl, Int.toNat_natCast, hD, c0, n0, m0, f1, f2, w1, w2, w3, q1, Option.bind_some, gtT, gtF, geT, geF, ltT, leT, eqT, eqF, neT, neF, iff_true', iff_false', selB_true, selB_false, isB_bool, toBool_bool, beqT, beqF, Bool.not_true, Bool.not_false, beq_self_eq_true, thenN_n, thenN_r, passE_eq, retE_r]
  by_cases b2 : opc ops k = 2 ∧ gd D k ≤ opn ops k
  · have hbad := hp.bad hk hd (fun h => h.2.1 b2)
    obtain ⟨b2, b3⟩ := b2
    refine .inr ⟨hbad, D, T, Is.of e53 (hE.mp fun n q1 => ?_)⟩
    simp (disch := omega) only [F53, stS, ints, nth_0, nth_1, nth_2, nth_3, nth_4, nth_5, fld_agg, sf0, sf1, sf2, toInt_int, toList_list, hl, Int.toNat_natCast, hD, c0, n0, m0, f1, f2, w1, w2, w3, q1, Option.bind_some, gtT, gtF, geT, geF, ltT, leT, eqT, eqF, neT, neF, iff_true', iff_false', selB_true, selB_false, isB_bool, toBool_bool, beqT, beqF, Bool.not_true, Bool.not_false, beq_self_eq_true, thenN_n, thenN_r, passE_eq, retE_r]
  by_cases b3 : opc ops k = 7 ∧ gd D k ≠ 2
  · have hbad := hp.bad hk hd (fun h => h.2.2.1 b3)
    obtain ⟨b3, b4⟩ := b3
    refine .inr ⟨hbad, D, T, Is.of e53 (hE.mp fun n q1 => ?_)⟩
    simp (disch := omega) only [F53, stS, ints, nth_0, nth_1, nth_2, nth_3, nth_4, nth_5, fld_agg, sf0, sf1, sf2, toInt_int, toList_list, hl, Int.toNat_natCast, hD, c0, n0, m0, f1, f2, w1, w2, w3, q1, Option.bind_some, gtT, gtF, geT, geF, ltT, leT, eqT, eqF, neT, neF, iff_true', iff_false', selB_true, selB_false, isB_bool, toBool_bool, beqT, beqF, Bool.not_true, Bool.not_false, beq_self_eq_true, thenN_n, thenN_r, passE_eq, retE_r]
  by_cases x7 : opc ops k = 7
  · have hn : nxDS ops k = [] := by unfold nxDS nxtS; simp [x7]
    have hb : gd D k = 2 := Classical.byContradiction fun h => b3 ⟨x7, h⟩
    have hc : chkD ops k (gd D k) := ⟨b1, b2, b3, by omega⟩
    refine .inl ⟨D, T, hp.inv hc (by rw [hn]; simp), Nat.le_refl _, rfl, Is.of e53 (hE.mp fun n q1 => ?_)⟩
    simp (disch := omega) only [F53, stS, ints, nth_0, nth_1, nth_2, nth_3, nth_4, nth_5, fld_agg, sf0, sf1, sf2, toInt_int, toList_list, hl, Int.toNat_natCast, hD, c0, n0, m0, f1, f2, w1, w2, w3, q1, Option.bind_some, gtT, gtF, geT, geF, ltT, leT, eqT, eqF, neT, neF, iff_true', iff_false', selB_true, selB_false, isB_bool, toBool_bool, beqT, beqF, Bool.not_true, Bool.not_false, beq_self_eq_true, thenN_n, thenN_r, passE_eq, retE_r]
  by_cases x21 : opc ops k = 21
  · have hn : nxDS ops k = [] := by unfold nxDS nxtS; simp [x21]
    have hb : effP (opc ops k) = 0 := by rw [x21]; rfl
    have hc : chkD ops k (gd D k) := ⟨b1, b2, b3, by omega⟩
    refine .inl ⟨D, T, hp.inv hc (by rw [hn]; simp), Nat.le_refl _, rfl, Is.of e53 (hE.mp fun n q1 => ?_)⟩
    simp (disch := omega) only [F53, stS, ints, nth_0, nth_1, nth_2, nth_3, nth_4, nth_5, fld_agg, sf0, sf1, sf2, toInt_int, toList_list, hl, Int.toNat_natCast, hD, c0, n0, m0, f1, f2, w1, w2, w3, q1, Option.bind_some, gtT, gtF, geT, geF, ltT, leT, eqT, eqF, neT, neF, iff_true', iff_false', selB_true, selB_false, isB_bool, toBool_bool, beqT, beqF, Bool.not_true, Bool.not_false, beq_self_eq_true, thenN_n, thenN_r, passE_eq, retE_r]
  by_cases x19 : opc ops k = 19
  · have hn : nxDS ops k = [opn ops k] := by unfold nxDS nxtS; simp [x19]
    have hmem : opn ops k ∈ nxDS ops k := by rw [hn]; simp
    have h0 := g.nxS k _ hk hmem
    by_cases b4 : bhD ops k (gd D k) ≤ 60
    · have hc : chkD ops k (gd D k) := ⟨b1, b2, b3, b4⟩
      rcases goP g hk hd hc hp hu hmem with ⟨D', T', k1, k2, k3, k4⟩ | ⟨k1, k2⟩
      · refine .inl ⟨D', T', k1.inv hc (by rw [hn]; simp), k2, k3, Is.of e53 (hE.mp2 k4 fun n q1 q2 => ?_)⟩
        simp (disch := omega) only [F53, stS, ints, nth_0, nth_1, nth_2, nth_3, nth_4, nth_5, fld_agg, sf0, sf1, sf2, toInt_int, toList_list, hl, Int.toNat_natCast, hD, c0, n0, m0, f1, f2, w1, w2, w3, q1, Option.bind_some, gtT, gtF, geT, geF, ltT, leT, eqT, eqF, neT, neF, iff_true', iff_false', selB_true, selB_false, isB_bool, toBool_bool, beqT, beqF, Bool.not_true, Bool.not_false, beq_self_eq_true, thenN_n, thenN_r, passE_eq, retE_r, q2]
      · refine .inr ⟨k1, D, T, Is.of e53 (hE.mp2 k2 fun n q1 q2 => ?_)⟩
        simp (disch := omega) only [F53, stS, ints, nth_0, nth_1, nth_2, nth_3, nth_4, nth_5, fld_agg, sf0, sf1, sf2, toInt_int, toList_list, hl, Int.toNat_natCast, hD, c0, n0, m0, f1, f2, w1, w2, w3, q1, Option.bind_some, gtT, gtF, geT, geF, ltT, leT, eqT, eqF, neT, neF, iff_true', iff_false', selB_true, selB_false, isB_bool, toBool_bool, beqT, beqF, Bool.not_true, Bool.not_false, beq_self_eq_true, thenN_n, thenN_r, passE_eq, retE_r, q2]
    · have hbad := hp.bad hk hd (fun h => b4 h.2.2.2)
      have k2 := go_out (D := D) (T := T) (ok := true) h0.1 (.inr (show 60 < bhD ops k (gd D k) by omega))
      refine .inr ⟨hbad, D, T, Is.of e53 (hE.mp2 k2 fun n q1 q2 => ?_)⟩
      simp (disch := omega) only [F53, stS, ints, nth_0, nth_1, nth_2, nth_3, nth_4, nth_5, fld_agg, sf0, sf1, sf2, toInt_int, toList_list, hl, Int.toNat_natCast, hD, c0, n0, m0, f1, f2, w1, w2, w3, q1, Option.bind_some, gtT, gtF, geT, geF, ltT, leT, eqT, eqF, neT, neF, iff_true', iff_false', selB_true, selB_false, isB_bool, toBool_bool, beqT, beqF, Bool.not_true, Bool.not_false, beq_self_eq_true, thenN_n, thenN_r, passE_eq, retE_r, q2]
  by_cases x18 : opc ops k = 18
  · have hn : nxDS ops k = [opn ops k, (k : Int) + 1] := by unfold nxDS nxtS; simp [x18]
    have hmem : opn ops k ∈ nxDS ops k := by rw [hn]; simp
    have hmem2 : (k : Int) + 1 ∈ nxDS ops k := by rw [hn]; simp
    have h0 := g.nxS k _ hk hmem
    by_cases b4 : bhD ops k (gd D k) ≤ 60
    · have hc : chkD ops k (gd D k) := ⟨b1, b2, b3, b4⟩
      rcases goP g hk hd hc hp hu hmem with ⟨D', T', k1, k2, k3, k4⟩ | ⟨k1, k2⟩
      · rcases goP g hk hd hc k1 (by omega) hmem2 with ⟨D2, T2, j1, j2, j3, j4⟩ | ⟨j1, j2⟩
        · refine .inl ⟨D2, T2, j1.inv hc (by rw [hn]; simp), by omega, by omega, Is.of e53 (hE.mp3 k4 j4 fun n q1 q2 q3 => ?_)⟩
          simp (disch := omega) only [F53, stS, ints, nth_0, nth_1, nth_2, nth_3, nth_4, nth_5, fld_agg, sf0, sf1, sf2, toInt_int, toList_list, hl, Int.toNat_natCast, hD, c0, n0, m0, f1, f2, w1, w2, w3, q1, Option.bind_some, gtT, gtF, geT, geF, ltT, leT, eqT, eqF, neT, neF, iff_true', iff_false', selB_true, selB_false, isB_bool, toBool_bool, beqT, beqF, Bool.not_true, Bool.not_false, beq_self_eq_true, thenN_n, thenN_r, passE_eq, retE_r, q2, q3]
        · refine .inr ⟨j1, D', T', Is.of e53 (hE.mp3 k4 j2 fun n q1 q2 q3 => ?_)⟩
          simp (disch := omega) only [F53, stS, ints, nth_0, nth_1, nth_2, nth_3, nth_4, nth_5, fld_agg, sf0, sf1, sf2, toInt_int, toList_list, hl, Int.toNat_natCast, hD, c0, n0, m0, f1, f2, w1, w2, w3, q1, Option.bind_some, gtT, gtF, geT, geF, ltT, leT, eqT, eqF, neT, neF, iff_true', iff_false', selB_true, selB_false, isB_bool, toBool_bool, beqT, beqF, Bool.not_true, Bool.not_false, beq_self_eq_true, thenN_n, thenN_r, passE_eq, retE_r, q2, q3]
      · obtain ⟨D2, T2, j2⟩ := go_any (D := D) (T := T) (s := (k : Int) + 1) (b := bhD ops k (gd D k)) (by omega) hT
        refine .inr ⟨k1, D2, T2, Is.of e53 (hE.mp3 k2 j2 fun n q1 q2 q3 => ?_)⟩
        simp (disch := omega) only [F53, stS, ints, nth_0, nth_1, nth_2, nth_3, nth_4, nth_5, fld_agg, sf0, sf1, sf2, toInt_int, toList_list, hl, Int.toNat_natCast, hD, c0, n0, m0, f1, f2, w1, w2, w3, q1, Option.bind_some, gtT, gtF, geT, geF, ltT, leT, eqT, eqF, neT, neF, iff_true', iff_false', selB_true, selB_false, isB_bool, toBool_bool, beqT, beqF, Bool.not_true, Bool.not_false, beq_self_eq_true, thenN_n, thenN_r, passE_eq, retE_r, q2, q3]
    · have hbad := hp.bad hk hd (fun h => b4 h.2.2.2)
      have k2 := go_out (D := D) (T := T) (ok := true) h0.1 (.inr (show 60 < bhD ops k (gd D k) by omega))
      have j2 := go_out (D := D) (T := T) (ok := false) (s := (k : Int) + 1) (by omega) (.inr (show 60 < bhD ops k (gd D k) by omega))
      refine .inr ⟨hbad, D, T, Is.of e53 (hE.mp3 k2 j2 fun n q1 q2 q3 => ?_)⟩
      simp (disch := omega) only [F53, stS, ints, nth_0, nth_1, nth_2, nth_3, nth_4, nth_5, fld_agg, sf0, sf1, sf2, toInt_int, toList_list, hl, Int.toNat_natCast, hD, c0, n0, m0, f1, f2, w1, w2, w3, q1, Option.bind_some, gtT, gtF, geT, geF, ltT, leT, eqT, eqF, neT, neF, iff_true', iff_false', selB_true, selB_false, isB_bool, toBool_bool, beqT, beqF, Bool.not_true, Bool.not_false, beq_self_eq_true, thenN_n, thenN_r, passE_eq, retE_r, q2, q3]
  by_cases x10 : opc ops k = 10
  · have hn : nxDS ops k = [opm ops k, (k : Int) + 1] := by unfold nxDS nxtS; simp [x10]
    have hmem : opm ops k ∈ nxDS ops k := by rw [hn]; simp
    have hmem2 : (k : Int) + 1 ∈ nxDS ops k := by rw [hn]; simp
    have h0 := g.nxS k _ hk hmem
    by_cases b4 : bhD ops k (gd D k) ≤ 60
    · have hc : chkD ops k (gd D k) := ⟨b1, b2, b3, b4⟩
      rcases goP g hk hd hc hp hu hmem with ⟨D', T', k1, k2, k3, k4⟩ | ⟨k1, k2⟩
      · rcases goP g hk hd hc k1 (by omega) hmem2 with ⟨D2, T2, j1, j2, j3, j4⟩ | ⟨j1, j2⟩
        · refine .inl ⟨D2, T2, j1.inv hc (by rw [hn]; simp), by omega, by omega, Is.of e53 (hE.mp3 k4 j4 fun n q1 q2 q3 => ?_)⟩
          simp (disch := omega) only [F53, stS, ints, nth_0, nth_1, nth_2, nth_3, nth_4, nth_5, fld_agg, sf0, sf1, sf2, toInt_int, toList_list, hl, Int.toNat_natCast, hD, c0, n0, m0, f1, f2, w1, w2, w3, q1, Option.bind_some, gtT, gtF, geT, geF, ltT, leT, eqT, eqF, neT, neF, iff_true', iff_false', selB_true, selB_false, isB_bool, toBool_bool, beqT, beqF, Bool.not_true, Bool.not_false, beq_self_eq_true, thenN_n, thenN_r, passE_eq, retE_r, q2, q3]
        · refine .inr ⟨j1, D', T', Is.of e53 (hE.mp3 k4 j2 fun n q1 q2 q3 => ?_)⟩
          simp (disch := omega) only [F53, stS, ints, nth_0, nth_1, nth_2, nth_3, nth_4, nth_5, fld_agg, sf0, sf1, sf2, toInt_int, toList_list, hl, Int.toNat_natCast, hD, c0, n0, m0, f1, f2, w1, w2, w3, q1, Option.bind_some, gtT, gtF, geT, geF, ltT, leT, eqT, eqF, neT, neF, iff_true', iff_false', selB_true, selB_false, isB_bool, toBool_bool, beqT, beqF, Bool.not_true, Bool.not_false, beq_self_eq_true, thenN_n, thenN_r, passE_eq, retE_r, q2, q3]
      · obtain ⟨D2, T2, j2⟩ := go_any (D := D) (T := T) (s := (k : Int) + 1) (b := bhD ops k (gd D k)) (by omega) hT
        refine .inr ⟨k1, D2, T2, Is.of e53 (hE.mp3 k2 j2 fun n q1 q2 q3 => ?_)⟩
        simp (disch := omega) only [F53, stS, ints, nth_0, nth_1, nth_2, nth_3, nth_4, nth_5, fld_agg, sf0, sf1, sf2, toInt_int, toList_list, hl, Int.toNat_natCast, hD, c0, n0, m0, f1, f2, w1, w2, w3, q1, Option.bind_some, gtT, gtF, geT, geF, ltT, leT, eqT, eqF, neT, neF, iff_true', iff_false', selB_true, selB_false, isB_bool, toBool_bool, beqT, beqF, Bool.not_true, Bool.not_false, beq_self_eq_true, thenN_n, thenN_r, passE_eq, retE_r, q2, q3]
    · have hbad := hp.bad hk hd (fun h => b4 h.2.2.2)
      have k2 := go_out (D := D) (T := T) (ok := true) h0.1 (.inr (show 60 < bhD ops k (gd D k) by omega))
      have j2 := go_out (D := D) (T := T) (ok := false) (s := (k : Int) + 1) (by omega) (.inr (show 60 < bhD ops k (gd D k) by omega))
      refine .inr ⟨hbad, D, T, Is.of e53 (hE.mp3 k2 j2 fun n q1 q2 q3 => ?_)⟩
      simp (disch := omega) only [F53, stS, ints, nth_0, nth_1, nth_2, nth_3, nth_4, nth_5, fld_agg, sf0, sf1, sf2, toInt_int, toList_list, hl, Int.toNat_natCast, hD, c0, n0, m0, f1, f2, w1, w2, w3, q1, Option.bind_some, gtT, gtF, geT, geF, ltT, leT, eqT, eqF, neT, neF, iff_true', iff_false', selB_true, selB_false, isB_bool, toBool_bool, beqT, beqF, Bool.not_true, Bool.not_false, beq_self_eq_true, thenN_n, thenN_r, passE_eq, retE_r, q2, q3]
  by_cases x11 : opc ops k = 11
  · have hn : nxDS ops k = [opm ops k, (k : Int) + 1] := by unfold nxDS nxtS; simp [x11]
    have hmem : opm ops k ∈ nxDS ops k := by rw [hn]; simp
    have hmem2 : (k : Int) + 1 ∈ nxDS ops k := by rw [hn]; simp
    have h0 := g.nxS k _ hk hmem
    by_cases b4 : bhD ops k (gd D k) ≤ 60
    · have hc : chkD ops k (gd D k) := ⟨b1, b2, b3, b4⟩
      rcases goP g hk hd hc hp hu hmem with ⟨D', T', k1, k2, k3, k4⟩ | ⟨k1, k2⟩
      · rcases goP g hk hd hc k1 (by omega) hmem2 with ⟨D2, T2, j1, j2, j3, j4⟩ | ⟨j1, j2⟩
        · refine .inl ⟨D2, T2, j1.inv hc (by rw [hn]; simp), by omega, by omega, Is.of e53 (hE.mp3 k4 j4 fun n q1 q2 q3 => ?_)⟩
          simp (disch := omega) only [F53, stS, ints, nth_0, nth_1, nth_2, nth_3, nth_4, nth_5, fld_agg, sf0, sf1, sf2, toInt_int, toList_list, hl, Int.toNat_natCast, hD, c0, n0, m0, f1, f2, w1, w2, w3, q1, Option.bind_some, gtT, gtF, geT, geF, ltT, leT, eqT, eqF, neT, neF, iff_true', iff_false', selB_true, selB_false, isB_bool, toBool_bool, beqT, beqF, Bool.not_true, Bool.not_false, beq_self_eq_true, thenN_n, thenN_r, passE_eq, retE_r, q2, q3]
        · refine .inr ⟨j1, D', T', Is.of e53 (hE.mp3 k4 j2 fun n q1 q2 q3 => ?_)⟩
          simp (disch := omega) only [F53, stS, ints, nth_0, nth_1, nth_2, nth_3, nth_4, nth_5, fld_agg, sf0, sf1, sf2, toInt_int, toList_list, hl, Int.toNat_natCast, hD, c0, n0, m0, f1, f2, w1, w2, w3, q1, Option.bind_some, gtT, gtF, geT, geF, ltT, leT, eqT, eqF, neT, neF, iff_true', iff_false', selB_true, selB_false, isB_bool, toBool_bool, beqT, beqF, Bool.not_true, Bool.not_false, beq_self_eq_true, thenN_n, thenN_r, passE_eq, retE_r, q2, q3]
      · obtain ⟨D2, T2, j2⟩ := go_any (D := D) (T := T) (s := (k : Int) + 1) (b := bhD ops k (gd D k)) (by omega) hT
        refine .inr ⟨k1, D2, T2, Is.of e53 (hE.mp3 k2 j2 fun n q1 q2 q3 => ?_)⟩
        simp (disch := omega) only [F53, stS, ints, nth_0, nth_1, nth_2, nth_3, nth_4, nth_5, fld_agg, sf0, sf1, sf2, toInt_int, toList_list, hl, Int.toNat_natCast, hD, c0, n0, m0, f1, f2, w1, w2, w3, q1, Option.bind_some, gtT, gtF, geT, geF, ltT, leT, eqT, eqF, neT, neF, iff_true', iff_false', selB_true, selB_false, isB_bool, toBool_bool, beqT, beqF, Bool.not_true, Bool.not_false, beq_self_eq_true, thenN_n, thenN_r, passE_eq, retE_r, q2, q3]
    · have hbad := hp.bad hk hd (fun h => b4 h.2.2.2)
      have k2 := go_out (D := D) (T := T) (ok := true) h0.1 (.inr (show 60 < bhD ops k (gd D k) by omega))
      have j2 := go_out (D := D) (T := T) (ok := false) (s := (k : Int) + 1) (by omega) (.inr (show 60 < bhD ops k (gd D k) by omega))
      refine .inr ⟨hbad, D, T, Is.of e53 (hE.mp3 k2 j2 fun n q1 q2 q3 => ?_)⟩
      simp (disch := omega) only [F53, stS, ints, nth_0, nth_1, nth_2, nth_3, nth_4, nth_5, fld_agg, sf0, sf1, sf2, toInt_int, toList_list, hl, Int.toNat_natCast, hD, c0, n0, m0, f1, f2, w1, w2, w3, q1, Option.bind_some, gtT, gtF, geT, geF, ltT, leT, eqT, eqF, neT, neF, iff_true', iff_false', selB_true, selB_false, isB_bool, toBool_bool, beqT, beqF, Bool.not_true, Bool.not_false, beq_self_eq_true, thenN_n, thenN_r, passE_eq, retE_r, q2, q3]
  have hn : nxDS ops k = [(k : Int) + 1] := by unfold nxDS nxtS; simp [x7, x21, x19, x18, x10, x11]
  have hmem : (k : Int) + 1 ∈ nxDS ops k := by rw [hn]; simp
  have h0 := g.nxS k _ hk hmem
  have hfin : ∀ r, (Evt fun n => ev Try.prog sg n 52 [stS D T true, .int ((k : Int) + 1), .int (bhD ops k (gd D k))] = some [r]) → Rn 53 [stS D T true, .list ops, .int k] [r] := fun r hr2 => Is.of e53 (hE.mp2 hr2 fun n q1 q2 => by
    by_cases x2 : opc ops k = 2
    · have : ¬ gd D k ≤ opn ops k := fun h => b2 ⟨x2, h⟩
      simp (disch := omega) only [F53, stS, ints, nth_0, nth_1, nth_2, nth_3, nth_4, nth_5, fld_agg, sf0, sf1, sf2, toInt_int, toList_list, hl, Int.toNat_natCast, hD, c0, n0, m0, f1, f2, w1, w2, w3, q1, Option.bind_some, gtT, gtF, geT, geF, ltT, leT, eqT, eqF, neT, neF, iff_true', iff_false', selB_true, selB_false, isB_bool, toBool_bool, beqT, beqF, Bool.not_true, Bool.not_false, beq_self_eq_true, thenN_n, thenN_r, passE_eq, retE_r, q2]
    · simp (disch := omega) only [F53, stS, ints, nth_0, nth_1, nth_2, nth_3, nth_4, nth_5, fld_agg, sf0, sf1, sf2, toInt_int, toList_list, hl, Int.toNat_natCast, hD, c0, n0, m0, f1, f2, w1, w2, w3, q1, Option.bind_some, gtT, gtF, geT, geF, ltT, leT, eqT, eqF, neT, neF, iff_true', iff_false', selB_true, selB_false, isB_bool, toBool_bool, beqT, beqF, Bool.not_true, Bool.not_false, beq_self_eq_true, thenN_n, thenN_r, passE_eq, retE_r, q2])
  by_cases b4 : bhD ops k (gd D k) ≤ 60
  · have hc : chkD ops k (gd D k) := ⟨b1, b2, b3, b4⟩
    rcases goP g hk hd hc hp hu hmem with ⟨D', T', k1, k2, k3, k4⟩ | ⟨k1, k2⟩
    · exact .inl ⟨D', T', k1.inv hc (by rw [hn]; simp), k2, k3, hfin _ k4⟩
    · exact .inr ⟨k1, D, T, hfin _ k2⟩
  · have hbad := hp.bad hk hd (fun h => b4 h.2.2.2)
    exact .inr ⟨hbad, D, T, hfin _ (go_out h0.1 (.inr (show 60 < bhD ops k (gd D k) by omega)))⟩
end Go.Proofs.Ytfnhimhmhinjdaa.GFnExactVerify
