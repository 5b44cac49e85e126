/- What functions of the program and of the reference come to, for the law FnExactVmNew. Each under the conditions that it names. -/
import Derived.Test.YtijgokehlicmnaaCFnExactVmNew
namespace Go.Proofs.Ytijgokehlicmnaa.GFnExactVmNew
open Go Go.Rsc Go.Proofs.Ytijgokehlicmnaa
set_option maxRecDepth 100000
set_option linter.unusedVariables false
set_option linter.unusedSimpArgs false
theorem isB_u (b : Bool) : PV.isB .unit b = false := rfl
theorem sf0 (a b c x : PV) : PV.setFld (.agg [a, b, c]) 0 x = .agg [x, b, c] := rfl
theorem sf1 (a b c x : PV) : PV.setFld (.agg [a, b, c]) 1 x = .agg [a, x, c] := rfl
theorem sf2 (a b c x : PV) : PV.setFld (.agg [a, b, c]) 2 x = .agg [a, b, x] := rfl
abbrev stS (D T : List Int) (ok : Bool) : PV := .agg [ints D, ints T, .bool ok]
section
variable {D T : List Int} {ok : Bool}
theorem go_out {s b : Int} (h0 : 0 ≤ s) (h : (D.length : Int) ≤ s ∨ 60 < b) : Rn 215 [stS D T ok, .int s, .int b] [stS D T false] := by
  have hl := map_len D
  refine Is.of e215 (Evt.all fun n => ?_)
  by_cases h1 : (D.length : Int) ≤ s
  · simp (disch := omega) only [F215, stS, ints, nth_0, nth_1, nth_2, fld_agg, sf0, sf1, sf2, toInt_int, toList_list, hl, geT, geF, gtT, gtF, selB_true, selB_false, toBool_bool, iff_true', iff_false', beqT, beqF, Bool.not_true, Bool.not_false]
  · have h2 : 60 < b := h.resolve_left h1
    simp (disch := omega) only [F215, stS, ints, nth_0, nth_1, nth_2, fld_agg, sf0, sf1, sf2, toInt_int, toList_list, hl, geT, geF, gtT, gtF, selB_true, selB_false, toBool_bool, iff_true', iff_false', beqT, beqF, Bool.not_true, Bool.not_false]
theorem go_new {s : Nat} {b : Int} (hs : s < D.length) (hb : b ≤ 60) (h : gd D s < 0) (hT : T.length ≤ 6000) : Rn 215 [stS D T ok, .int s, .int b] [stS (D.set s b) (T ++ [(s : Int)]) ok] := by
  have hl := map_len D
  have hl2 := map_len T
  have hD := nth_map hs
  refine Is.of e215 (Evt.all fun n => ?_)
  simp (disch := omega) only [F215, stS, ints, nth_0, nth_1, nth_2, fld_agg, sf0, sf1, sf2, toInt_int, toList_list, hl, hl2, Int.toNat_natCast, hD, geT, geF, gtT, gtF, ltT, ltF, leNT, List.length_singleton, selB_true, selB_false, toBool_bool, iff_true', iff_false', beqT, beqF, Bool.not_true, Bool.not_false]
  rw [set_map, List.map_append]
  rfl
theorem go_same {s : Nat} {b : Int} (hs : s < D.length) (hb : b ≤ 60) (h : 0 ≤ gd D s) (he : gd D s = b) : Rn 215 [stS D T ok, .int s, .int b] [stS D T ok] := by
  have hl := map_len D
  have hD := nth_map hs
  refine Is.of e215 (Evt.all fun n => ?_)
  simp (disch := omega) only [F215, stS, ints, nth_0, nth_1, nth_2, fld_agg, sf0, sf1, sf2, toInt_int, toList_list, hl, Int.toNat_natCast, hD, geT, geF, gtT, gtF, ltT, ltF, neT, neF, selB_true, selB_false, toBool_bool, iff_true', iff_false', beqT, beqF, Bool.not_true, Bool.not_false]
theorem go_diff {s : Nat} {b : Int} (hs : s < D.length) (hb : b ≤ 60) (h : 0 ≤ gd D s) (he : gd D s ≠ b) : Rn 215 [stS D T ok, .int s, .int b] [stS D T false] := by
  have hl := map_len D
  have hD := nth_map hs
  refine Is.of e215 (Evt.all fun n => ?_)
  simp (disch := omega) only [F215, stS, ints, nth_0, nth_1, nth_2, fld_agg, sf0, sf1, sf2, toInt_int, toList_list, hl, Int.toNat_natCast, hD, geT, geF, gtT, gtF, ltT, ltF, neT, neF, selB_true, selB_false, toBool_bool, iff_true', iff_false', beqT, beqF, Bool.not_true, Bool.not_false]
theorem go_any {s b : Int} (h0 : 0 ≤ s) (hT : T.length ≤ 6000) : ∃ D' T', Rn 215 [stS D T false, .int s, .int b] [stS D' T' false] := by
  obtain ⟨s, rfl⟩ : ∃ k : Nat, s = (k : Int) := ⟨s.toNat, by omega⟩
  by_cases h1 : (D.length : Int) ≤ s ∨ 60 < b
  · exact ⟨_, _, go_out (by omega) h1⟩
  by_cases h2 : gd D s < 0
  · exact ⟨_, _, go_new (by omega) (by omega) h2 hT⟩
  by_cases h3 : gd D s = b
  · exact ⟨_, _, go_same (by omega) (by omega) (by omega) h3⟩
  · exact ⟨_, _, go_diff (by omega) (by omega) (by omega) h3⟩
end
theorem goP {ops : List PV} (g : OpsGood ops) {at_ : Nat} (ha : at_ < ops.length) {d : Int} (hd : d ≠ -1) (hc : chkD ops at_ d) {don D T : List Int} (hp : PInvS ops at_ d don D T) (hu : unset D + T.length ≤ 3000) {s : Int} (hs : s ∈ nxDS ops at_) :
    (∃ D' T', PInvS ops at_ d (don ++ [s]) D' T' ∧ unset D' ≤ unset D ∧ unset D' + T'.length = unset D + T.length ∧ Rn 215 [stS D T true, .int s, .int (bhD ops at_ d)] [stS D' T' true]) ∨
    (NoSolS ops ∧ Rn 215 [stS D T true, .int s, .int (bhD ops at_ d)] [stS D T false]) := by
  obtain ⟨x0, xN⟩ := g.nxS at_ s ha hs
  obtain ⟨s, rfl⟩ : ∃ k : Nat, s = (k : Int) := ⟨s.toNat, by omega⟩
  obtain ⟨p1, p2, p3⟩ := hp.put (chkD_bh ops) g.nxS ha hd hc hs
  have hl := hp.len
  have hb := chkD_bh ops at_ d hc
  have hr := hp.rng s (by omega)
  by_cases h1 : gd D s = -1
  · have hun := unset_set D s (bhD ops at_ d) (by omega) h1 (by omega)
    exact .inl ⟨_, _, p1 h1, by omega, by simp; omega, go_new (by omega) (by omega) (by omega) (by omega)⟩
  by_cases h2 : gd D s = bhD ops at_ d
  · exact .inl ⟨_, _, p2 h2, Nat.le_refl _, rfl, go_same (by omega) (by omega) (by omega) h2⟩
  · exact .inr ⟨p3 h1 h2, go_diff (by omega) (by omega) (by omega) h2⟩
set_option maxHeartbeats 4000000 in
theorem oneS {ops : List PV} (g : OpsGood ops) {k : Nat} (hk : k < ops.length) {D T : List Int} (hp : PInvS ops k (gd D k) [] D T) (hd : gd D k ≠ -1) (hu : unset D + T.length ≤ 3000) :
    (∃ D' T', InvS ops D' T' ∧ unset D' ≤ unset D ∧ unset D' + T'.length = unset D + T.length ∧ Rn 216 [stS D T true, .list ops, .int k] [stS D' T' true]) ∨
    (NoSolS ops ∧ ∃ D' T', Rn 216 [stS D T true, .list ops, .int k] [stS D' T' false]) := by
  have hr := (hp.rng k hk).resolve_left hd
  have hlD := hp.len
  obtain ⟨hop, hc1, hc21⟩ := g.op k hk
  obtain ⟨he0, he20⟩ := g.eff k hk
  have hP := effP_01 (opc ops k)
  have hlen3 := g.len
  have hE : Rn 226 [nth ops k] [.int (effT (opc ops k) (opm ops k)), .int (effP (opc ops k))] := by rw [hop]; exact effS _ _ hc1 hc21
  have hD := nth_map (D := D) (k := k) (by omega)
  have hl := map_len D
  have c0 : ((nth ops k).fld 0).toInt = opc ops k := rfl
  have n0 : ((nth ops k).fld 1).toInt = opn ops k := rfl
  have m0 : ((nth ops k).fld 2).toInt = opm ops k := rfl
  have f1 : (nth ops k).fld 1 = .int (opn ops k) := by rw [hop]; rfl
  have f2 : (nth ops k).fld 2 = .int (opm ops k) := by rw [hop]; rfl
  have w1 : IntKind.i64.wrap (gd D k - 1) = gd D k - 1 := wrap64 (by omega) (by omega)
  have w2 : IntKind.i64.wrap (IntKind.i64.wrap (gd D k - effT (opc ops k) (opm ops k)) + effP (opc ops k)) = bhD ops k (gd D k) := by
    rw [wrap64 (x := gd D k - effT (opc ops k) (opm ops k)) (by omega) (by omega), wrap64 (by omega) (by omega)]; rfl
  have w3 : IntKind.i64.wrap ((k : Int) + 1) = (k : Int) + 1 := wrap64 (by omega) (by omega)
  have hT : T.length ≤ 6000 := by omega
  by_cases b1 : effT (opc ops k) (opm ops k) ≤ gd D k - 1
  rotate_left
  · have hbad := hp.bad hk hd (fun h => b1 h.1)
    refine .inr ⟨hbad, D, T, Is.of e216 (hE.mp fun n q1 => ?_)⟩
    simp (disch := omega) only [letB_eq, isB_u, F216, stS, ints, nth_0, nth_1, nth_2, nth_3, nth_4, nth_5, fld_agg, sf0, sf1, sf2, toInt_int, toList_list, hl, Int.toNat_natCast, hD, c0, n0, m0, f1, f2, w1, w2, w3, q1, Option.bind_some, gtT, gtF, geT, geF, ltT, leT, eqT, eqF, neT, neF, iff_true', iff_false', selB_true, selB_false, isB_bool, toBool_bool, beqT, beqF, Bool.not_true, Bool.not_false, beq_self_eq_true, thenN_n, thenN_r, passE_eq, retE_r]
  by_cases b2 : opc ops k = 2 ∧ gd D k ≤ opn ops k
  · have hbad := hp.bad hk hd (fun h => h.2.1 b2)
    obtain ⟨b2, b3⟩ := b2
    refine .inr ⟨hbad, D, T, Is.of e216 (hE.mp fun n q1 => ?_)⟩
    simp (disch := omega) only [letB_eq, isB_u, F216, stS, ints, nth_0, nth_1, nth_2, nth_3, nth_4, nth_5, fld_agg, sf0, sf1, sf2, toInt_int, toList_list, hl, Int.toNat_natCast, hD, c0, n0, m0, f1, f2, w1, w2, w3, q1, Option.bind_some, gtT, gtF, geT, geF, ltT, leT, eqT, eqF, neT, neF, iff_true', iff_false', selB_true, selB_false, isB_bool, toBool_bool, beqT, beqF, Bool.not_true, Bool.not_false, beq_self_eq_true, thenN_n, thenN_r, passE_eq, retE_r]
  by_cases b3 : opc ops k = 7 ∧ gd D k ≠ 2
  · have hbad := hp.bad hk hd (fun h => h.2.2.1 b3)
    obtain ⟨b3, b4⟩ := b3
    refine .inr ⟨hbad, D, T, Is.of e216 (hE.mp fun n q1 => ?_)⟩
    simp (disch := omega) only [letB_eq, isB_u, F216, stS, ints, nth_0, nth_1, nth_2, nth_3, nth_4, nth_5, fld_agg, sf0, sf1, sf2, toInt_int, toList_list, hl, Int.toNat_natCast, hD, c0, n0, m0, f1, f2, w1, w2, w3, q1, Option.bind_some, gtT, gtF, geT, geF, ltT, leT, eqT, eqF, neT, neF, iff_true', iff_false', selB_true, selB_false, isB_bool, toBool_bool, beqT, beqF, Bool.not_true, Bool.not_false, beq_self_eq_true, thenN_n, thenN_r, passE_eq, retE_r]
  by_cases x7 : opc ops k = 7
  · have hn : nxDS ops k = [] := by unfold nxDS nxtS; simp [x7]
    have hb : gd D k = 2 := Classical.byContradiction fun h => b3 ⟨x7, h⟩
    have hc : chkD ops k (gd D k) := ⟨b1, b2, b3, by omega⟩
    refine .inl ⟨D, T, hp.inv hc (by rw [hn]; simp), Nat.le_refl _, rfl, Is.of e216 (hE.mp fun n q1 => ?_)⟩
    simp (disch := omega) only [letB_eq, isB_u, F216, stS, ints, nth_0, nth_1, nth_2, nth_3, nth_4, nth_5, fld_agg, sf0, sf1, sf2, toInt_int, toList_list, hl, Int.toNat_natCast, hD, c0, n0, m0, f1, f2, w1, w2, w3, q1, Option.bind_some, gtT, gtF, geT, geF, ltT, leT, eqT, eqF, neT, neF, iff_true', iff_false', selB_true, selB_false, isB_bool, toBool_bool, beqT, beqF, Bool.not_true, Bool.not_false, beq_self_eq_true, thenN_n, thenN_r, passE_eq, retE_r]
  by_cases x21 : opc ops k = 21
  · have hn : nxDS ops k = [] := by unfold nxDS nxtS; simp [x21]
    have hb : effP (opc ops k) = 0 := by rw [x21]; rfl
    have hc : chkD ops k (gd D k) := ⟨b1, b2, b3, by omega⟩
    refine .inl ⟨D, T, hp.inv hc (by rw [hn]; simp), Nat.le_refl _, rfl, Is.of e216 (hE.mp fun n q1 => ?_)⟩
    simp (disch := omega) only [letB_eq, isB_u, F216, stS, ints, nth_0, nth_1, nth_2, nth_3, nth_4, nth_5, fld_agg, sf0, sf1, sf2, toInt_int, toList_list, hl, Int.toNat_natCast, hD, c0, n0, m0, f1, f2, w1, w2, w3, q1, Option.bind_some, gtT, gtF, geT, geF, ltT, leT, eqT, eqF, neT, neF, iff_true', iff_false', selB_true, selB_false, isB_bool, toBool_bool, beqT, beqF, Bool.not_true, Bool.not_false, beq_self_eq_true, thenN_n, thenN_r, passE_eq, retE_r]
  by_cases x19 : opc ops k = 19
  · have hn : nxDS ops k = [opn ops k] := by unfold nxDS nxtS; simp [x19]
    have hmem : opn ops k ∈ nxDS ops k := by rw [hn]; simp
    have h0 := g.nxS k _ hk hmem
    by_cases b4 : bhD ops k (gd D k) ≤ 60
    · have hc : chkD ops k (gd D k) := ⟨b1, b2, b3, b4⟩
      rcases goP g hk hd hc hp hu hmem with ⟨D', T', k1, k2, k3, k4⟩ | ⟨k1, k2⟩
      · refine .inl ⟨D', T', k1.inv hc (by rw [hn]; simp), k2, k3, Is.of e216 (hE.mp2 k4 fun n q1 q2 => ?_)⟩
        simp (disch := omega) only [letB_eq, isB_u, F216, stS, ints, nth_0, nth_1, nth_2, nth_3, nth_4, nth_5, fld_agg, sf0, sf1, sf2, toInt_int, toList_list, hl, Int.toNat_natCast, hD, c0, n0, m0, f1, f2, w1, w2, w3, q1, Option.bind_some, gtT, gtF, geT, geF, ltT, leT, eqT, eqF, neT, neF, iff_true', iff_false', selB_true, selB_false, isB_bool, toBool_bool, beqT, beqF, Bool.not_true, Bool.not_false, beq_self_eq_true, thenN_n, thenN_r, passE_eq, retE_r, q2]
      · refine .inr ⟨k1, D, T, Is.of e216 (hE.mp2 k2 fun n q1 q2 => ?_)⟩
        simp (disch := omega) only [letB_eq, isB_u, F216, stS, ints, nth_0, nth_1, nth_2, nth_3, nth_4, nth_5, fld_agg, sf0, sf1, sf2, toInt_int, toList_list, hl, Int.toNat_natCast, hD, c0, n0, m0, f1, f2, w1, w2, w3, q1, Option.bind_some, gtT, gtF, geT, geF, ltT, leT, eqT, eqF, neT, neF, iff_true', iff_false', selB_true, selB_false, isB_bool, toBool_bool, beqT, beqF, Bool.not_true, Bool.not_false, beq_self_eq_true, thenN_n, thenN_r, passE_eq, retE_r, q2]
    · have hbad := hp.bad hk hd (fun h => b4 h.2.2.2)
      have k2 := go_out (D := D) (T := T) (ok := true) h0.1 (.inr (show 60 < bhD ops k (gd D k) by omega))
      refine .inr ⟨hbad, D, T, Is.of e216 (hE.mp2 k2 fun n q1 q2 => ?_)⟩
      simp (disch := omega) only [letB_eq, isB_u, F216, stS, ints, nth_0, nth_1, nth_2, nth_3, nth_4, nth_5, fld_agg, sf0, sf1, sf2, toInt_int, toList_list, hl, Int.toNat_natCast, hD, c0, n0, m0, f1, f2, w1, w2, w3, q1, Option.bind_some, gtT, gtF, geT, geF, ltT, leT, eqT, eqF, neT, neF, iff_true', iff_false', selB_true, selB_false, isB_bool, toBool_bool, beqT, beqF, Bool.not_true, Bool.not_false, beq_self_eq_true, thenN_n, thenN_r, passE_eq, retE_r, q2]
  by_cases x18 : opc ops k = 18
  · have hn : nxDS ops k = [opn ops k, (k : Int) + 1] := by unfold nxDS nxtS; simp [x18]
    have hmem : opn ops k ∈ nxDS ops k := by rw [hn]; simp
    have hmem2 : (k : Int) + 1 ∈ nxDS ops k := by rw [hn]; simp
    have h0 := g.nxS k _ hk hmem
    by_cases b4 : bhD ops k (gd D k) ≤ 60
    · have hc : chkD ops k (gd D k) := ⟨b1, b2, b3, b4⟩
      rcases goP g hk hd hc hp hu hmem with ⟨D', T', k1, k2, k3, k4⟩ | ⟨k1, k2⟩
      · rcases goP g hk hd hc k1 (by omega) hmem2 with ⟨D2, T2, j1, j2, j3, j4⟩ | ⟨j1, j2⟩
        · refine .inl ⟨D2, T2, j1.inv hc (by rw [hn]; simp), by omega, by omega, Is.of e216 (hE.mp3 k4 j4 fun n q1 q2 q3 => ?_)⟩
          simp (disch := omega) only [letB_eq, isB_u, F216, stS, ints, nth_0, nth_1, nth_2, nth_3, nth_4, nth_5, fld_agg, sf0, sf1, sf2, toInt_int, toList_list, hl, Int.toNat_natCast, hD, c0, n0, m0, f1, f2, w1, w2, w3, q1, Option.bind_some, gtT, gtF, geT, geF, ltT, leT, eqT, eqF, neT, neF, iff_true', iff_false', selB_true, selB_false, isB_bool, toBool_bool, beqT, beqF, Bool.not_true, Bool.not_false, beq_self_eq_true, thenN_n, thenN_r, passE_eq, retE_r, q2, q3]
        · refine .inr ⟨j1, D', T', Is.of e216 (hE.mp3 k4 j2 fun n q1 q2 q3 => ?_)⟩
          simp (disch := omega) only [letB_eq, isB_u, F216, stS, ints, nth_0, nth_1, nth_2, nth_3, nth_4, nth_5, fld_agg, sf0, sf1, sf2, toInt_int, toList_list, hl, Int.toNat_natCast, hD, c0, n0, m0, f1, f2, w1, w2, w3, q1, Option.bind_some, gtT, gtF, geT, geF, ltT, leT, eqT, eqF, neT, neF, iff_true', iff_false', selB_true, selB_false, isB_bool, toBool_bool, beqT, beqF, Bool.not_true, Bool.not_false, beq_self_eq_true, thenN_n, thenN_r, passE_eq, retE_r, q2, q3]
      · obtain ⟨D2, T2, j2⟩ := go_any (D := D) (T := T) (s := (k : Int) + 1) (b := bhD ops k (gd D k)) (by omega) hT
        refine .inr ⟨k1, D2, T2, Is.of e216 (hE.mp3 k2 j2 fun n q1 q2 q3 => ?_)⟩
        simp (disch := omega) only [letB_eq, isB_u, F216, stS, ints, nth_0, nth_1, nth_2, nth_3, nth_4, nth_5, fld_agg, sf0, sf1, sf2, toInt_int, toList_list, hl, Int.toNat_natCast, hD, c0, n0, m0, f1, f2, w1, w2, w3, q1, Option.bind_some, gtT, gtF, geT, geF, ltT, leT, eqT, eqF, neT, neF, iff_true', iff_false', selB_true, selB_false, isB_bool, toBool_bool, beqT, beqF, Bool.not_true, Bool.not_false, beq_self_eq_true, thenN_n, thenN_r, passE_eq, retE_r, q2, q3]
    · have hbad := hp.bad hk hd (fun h => b4 h.2.2.2)
      have k2 := go_out (D := D) (T := T) (ok := true) h0.1 (.inr (show 60 < bhD ops k (gd D k) by omega))
      have j2 := go_out (D := D) (T := T) (ok := false) (s := (k : Int) + 1) (by omega) (.inr (show 60 < bhD ops k (gd D k) by omega))
      refine .inr ⟨hbad, D, T, Is.of e216 (hE.mp3 k2 j2 fun n q1 q2 q3 => ?_)⟩
      simp (disch := omega) only [letB_eq, isB_u, F216, stS, ints, nth_0, nth_1, nth_2, nth_3, nth_4, nth_5, fld_agg, sf0, sf1, sf2, toInt_int, toList_list, hl, Int.toNat_natCast, hD, c0, n0, m0, f1, f2, w1, w2, w3, q1, Option.bind_some, gtT, gtF, geT, geF, ltT, leT, eqT, eqF, neT, neF, iff_true', iff_false', selB_true, selB_false, isB_bool, toBool_bool, beqT, beqF, Bool.not_true, Bool.not_false, beq_self_eq_true, thenN_n, thenN_r, passE_eq, retE_r, q2, q3]
  by_cases x10 : opc ops k = 10
  · have hn : nxDS ops k = [opm ops k, (k : Int) + 1] := by unfold nxDS nxtS; simp [x10]
    have hmem : opm ops k ∈ nxDS ops k := by rw [hn]; simp
    have hmem2 : (k : Int) + 1 ∈ nxDS ops k := by rw [hn]; simp
    have h0 := g.nxS k _ hk hmem
    by_cases b4 : bhD ops k (gd D k) ≤ 60
    · have hc : chkD ops k (gd D k) := ⟨b1, b2, b3, b4⟩
      rcases goP g hk hd hc hp hu hmem with ⟨D', T', k1, k2, k3, k4⟩ | ⟨k1, k2⟩
      · rcases goP g hk hd hc k1 (by omega) hmem2 with ⟨D2, T2, j1, j2, j3, j4⟩ | ⟨j1, j2⟩
        · refine .inl ⟨D2, T2, j1.inv hc (by rw [hn]; simp), by omega, by omega, Is.of e216 (hE.mp3 k4 j4 fun n q1 q2 q3 => ?_)⟩
          simp (disch := omega) only [letB_eq, isB_u, F216, stS, ints, nth_0, nth_1, nth_2, nth_3, nth_4, nth_5, fld_agg, sf0, sf1, sf2, toInt_int, toList_list, hl, Int.toNat_natCast, hD, c0, n0, m0, f1, f2, w1, w2, w3, q1, Option.bind_some, gtT, gtF, geT, geF, ltT, leT, eqT, eqF, neT, neF, iff_true', iff_false', selB_true, selB_false, isB_bool, toBool_bool, beqT, beqF, Bool.not_true, Bool.not_false, beq_self_eq_true, thenN_n, thenN_r, passE_eq, retE_r, q2, q3]
        · refine .inr ⟨j1, D', T', Is.of e216 (hE.mp3 k4 j2 fun n q1 q2 q3 => ?_)⟩
          simp (disch := omega) only [letB_eq, isB_u, F216, stS, ints, nth_0, nth_1, nth_2, nth_3, nth_4, nth_5, fld_agg, sf0, sf1, sf2, toInt_int, toList_list, hl, Int.toNat_natCast, hD, c0, n0, m0, f1, f2, w1, w2, w3, q1, Option.bind_some, gtT, gtF, geT, geF, ltT, leT, eqT, eqF, neT, neF, iff_true', iff_false', selB_true, selB_false, isB_bool, toBool_bool, beqT, beqF, Bool.not_true, Bool.not_false, beq_self_eq_true, thenN_n, thenN_r, passE_eq, retE_r, q2, q3]
      · obtain ⟨D2, T2, j2⟩ := go_any (D := D) (T := T) (s := (k : Int) + 1) (b := bhD ops k (gd D k)) (by omega) hT
        refine .inr ⟨k1, D2, T2, Is.of e216 (hE.mp3 k2 j2 fun n q1 q2 q3 => ?_)⟩
        simp (disch := omega) only [letB_eq, isB_u, F216, stS, ints, nth_0, nth_1, nth_2, nth_3, nth_4, nth_5, fld_agg, sf0, sf1, sf2, toInt_int, toList_list, hl, Int.toNat_natCast, hD, c0, n0, m0, f1, f2, w1, w2, w3, q1, Option.bind_some, gtT, gtF, geT, geF, ltT, leT, eqT, eqF, neT, neF, iff_true', iff_false', selB_true, selB_false, isB_bool, toBool_bool, beqT, beqF, Bool.not_true, Bool.not_false, beq_self_eq_true, thenN_n, thenN_r, passE_eq, retE_r, q2, q3]
    · have hbad := hp.bad hk hd (fun h => b4 h.2.2.2)
      have k2 := go_out (D := D) (T := T) (ok := true) h0.1 (.inr (show 60 < bhD ops k (gd D k) by omega))
      have j2 := go_out (D := D) (T := T) (ok := false) (s := (k : Int) + 1) (by omega) (.inr (show 60 < bhD ops k (gd D k) by omega))
      refine .inr ⟨hbad, D, T, Is.of e216 (hE.mp3 k2 j2 fun n q1 q2 q3 => ?_)⟩
      simp (disch := omega) only [letB_eq, isB_u, F216, stS, ints, nth_0, nth_1, nth_2, nth_3, nth_4, nth_5, fld_agg, sf0, sf1, sf2, toInt_int, toList_list, hl, Int.toNat_natCast, hD, c0, n0, m0, f1, f2, w1, w2, w3, q1, Option.bind_some, gtT, gtF, geT, geF, ltT, leT, eqT, eqF, neT, neF, iff_true', iff_false', selB_true, selB_false, isB_bool, toBool_bool, beqT, beqF, Bool.not_true, Bool.not_false, beq_self_eq_true, thenN_n, thenN_r, passE_eq, retE_r, q2, q3]
  by_cases x11 : opc ops k = 11
  · have hn : nxDS ops k = [opm ops k, (k : Int) + 1] := by unfold nxDS nxtS; simp [x11]
    have hmem : opm ops k ∈ nxDS ops k := by rw [hn]; simp
    have hmem2 : (k : Int) + 1 ∈ nxDS ops k := by rw [hn]; simp
    have h0 := g.nxS k _ hk hmem
    by_cases b4 : bhD ops k (gd D k) ≤ 60
    · have hc : chkD ops k (gd D k) := ⟨b1, b2, b3, b4⟩
      rcases goP g hk hd hc hp hu hmem with ⟨D', T', k1, k2, k3, k4⟩ | ⟨k1, k2⟩
      · rcases goP g hk hd hc k1 (by omega) hmem2 with ⟨D2, T2, j1, j2, j3, j4⟩ | ⟨j1, j2⟩
        · refine .inl ⟨D2, T2, j1.inv hc (by rw [hn]; simp), by omega, by omega, Is.of e216 (hE.mp3 k4 j4 fun n q1 q2 q3 => ?_)⟩
          simp (disch := omega) only [letB_eq, isB_u, F216, stS, ints, nth_0, nth_1, nth_2, nth_3, nth_4, nth_5, fld_agg, sf0, sf1, sf2, toInt_int, toList_list, hl, Int.toNat_natCast, hD, c0, n0, m0, f1, f2, w1, w2, w3, q1, Option.bind_some, gtT, gtF, geT, geF, ltT, leT, eqT, eqF, neT, neF, iff_true', iff_false', selB_true, selB_false, isB_bool, toBool_bool, beqT, beqF, Bool.not_true, Bool.not_false, beq_self_eq_true, thenN_n, thenN_r, passE_eq, retE_r, q2, q3]
        · refine .inr ⟨j1, D', T', Is.of e216 (hE.mp3 k4 j2 fun n q1 q2 q3 => ?_)⟩
          simp (disch := omega) only [letB_eq, isB_u, F216, stS, ints, nth_0, nth_1, nth_2, nth_3, nth_4, nth_5, fld_agg, sf0, sf1, sf2, toInt_int, toList_list, hl, Int.toNat_natCast, hD, c0, n0, m0, f1, f2, w1, w2, w3, q1, Option.bind_some, gtT, gtF, geT, geF, ltT, leT, eqT, eqF, neT, neF, iff_true', iff_false', selB_true, selB_false, isB_bool, toBool_bool, beqT, beqF, Bool.not_true, Bool.not_false, beq_self_eq_true, thenN_n, thenN_r, passE_eq, retE_r, q2, q3]
      · obtain ⟨D2, T2, j2⟩ := go_any (D := D) (T := T) (s := (k : Int) + 1) (b := bhD ops k (gd D k)) (by omega) hT
        refine .inr ⟨k1, D2, T2, Is.of e216 (hE.mp3 k2 j2 fun n q1 q2 q3 => ?_)⟩
        simp (disch := omega) only [letB_eq, isB_u, F216, stS, ints, nth_0, nth_1, nth_2, nth_3, nth_4, nth_5, fld_agg, sf0, sf1, sf2, toInt_int, toList_list, hl, Int.toNat_natCast, hD, c0, n0, m0, f1, f2, w1, w2, w3, q1, Option.bind_some, gtT, gtF, geT, geF, ltT, leT, eqT, eqF, neT, neF, iff_true', iff_false', selB_true, selB_false, isB_bool, toBool_bool, beqT, beqF, Bool.not_true, Bool.not_false, beq_self_eq_true, thenN_n, thenN_r, passE_eq, retE_r, q2, q3]
    · have hbad := hp.bad hk hd (fun h => b4 h.2.2.2)
      have k2 := go_out (D := D) (T := T) (ok := true) h0.1 (.inr (show 60 < bhD ops k (gd D k) by omega))
      have j2 := go_out (D := D) (T := T) (ok := false) (s := (k : Int) + 1) (by omega) (.inr (show 60 < bhD ops k (gd D k) by omega))
      refine .inr ⟨hbad, D, T, Is.of e216 (hE.mp3 k2 j2 fun n q1 q2 q3 => ?_)⟩
      simp (disch := omega) only [letB_eq, isB_u, F216, stS, ints, nth_0, nth_1, nth_2, nth_3, nth_4, nth_5, fld_agg, sf0, sf1, sf2, toInt_int, toList_list, hl, Int.toNat_natCast, hD, c0, n0, m0, f1, f2, w1, w2, w3, q1, Option.bind_some, gtT, gtF, geT, geF, ltT, leT, eqT, eqF, neT, neF, iff_true', iff_false', selB_true, selB_false, isB_bool, toBool_bool, beqT, beqF, Bool.not_true, Bool.not_false, beq_self_eq_true, thenN_n, thenN_r, passE_eq, retE_r, q2, q3]
  have hn : nxDS ops k = [(k : Int) + 1] := by unfold nxDS nxtS; simp [x7, x21, x19, x18, x10, x11]
  have hmem : (k : Int) + 1 ∈ nxDS ops k := by rw [hn]; simp
  have h0 := g.nxS k _ hk hmem
  have hfin : ∀ r, (Evt fun n => ev Try.prog sg n 215 [stS D T true, .int ((k : Int) + 1), .int (bhD ops k (gd D k))] = some [r]) → Rn 216 [stS D T true, .list ops, .int k] [r] := fun r hr2 => Is.of e216 (hE.mp2 hr2 fun n q1 q2 => by
    by_cases x2 : opc ops k = 2
    · have : ¬ gd D k ≤ opn ops k := fun h => b2 ⟨x2, h⟩
      simp (disch := omega) only [letB_eq, isB_u, F216, stS, ints, nth_0, nth_1, nth_2, nth_3, nth_4, nth_5, fld_agg, sf0, sf1, sf2, toInt_int, toList_list, hl, Int.toNat_natCast, hD, c0, n0, m0, f1, f2, w1, w2, w3, q1, Option.bind_some, gtT, gtF, geT, geF, ltT, leT, eqT, eqF, neT, neF, iff_true', iff_false', selB_true, selB_false, isB_bool, toBool_bool, beqT, beqF, Bool.not_true, Bool.not_false, beq_self_eq_true, thenN_n, thenN_r, passE_eq, retE_r, q2]
    · simp (disch := omega) only [letB_eq, isB_u, F216, stS, ints, nth_0, nth_1, nth_2, nth_3, nth_4, nth_5, fld_agg, sf0, sf1, sf2, toInt_int, toList_list, hl, Int.toNat_natCast, hD, c0, n0, m0, f1, f2, w1, w2, w3, q1, Option.bind_some, gtT, gtF, geT, geF, ltT, leT, eqT, eqF, neT, neF, iff_true', iff_false', selB_true, selB_false, isB_bool, toBool_bool, beqT, beqF, Bool.not_true, Bool.not_false, beq_self_eq_true, thenN_n, thenN_r, passE_eq, retE_r, q2])
  by_cases b4 : bhD ops k (gd D k) ≤ 60
  · have hc : chkD ops k (gd D k) := ⟨b1, b2, b3, b4⟩
    rcases goP g hk hd hc hp hu hmem with ⟨D', T', k1, k2, k3, k4⟩ | ⟨k1, k2⟩
    · exact .inl ⟨D', T', k1.inv hc (by rw [hn]; simp), k2, k3, hfin _ k4⟩
    · exact .inr ⟨k1, D, T, hfin _ k2⟩
  · have hbad := hp.bad hk hd (fun h => b4 h.2.2.2)
    exact .inr ⟨hbad, D, T, hfin _ (go_out h0.1 (.inr (show 60 < bhD ops k (gd D k) by omega)))⟩
theorem outerS {ops fs : List PV} {i : Nat} {free : PV} (g : OpsGood ops) (hi : i < fs.length) (hq : nth fs i = .agg [free, .list ops]) : ∀ (μ : Nat) (D T : List Int), InvS ops D T → unset D + T.length ≤ 3000 → unset D + (unset D + T.length) ≤ μ →
    (∃ D', InvS ops D' [] ∧ Evt fun n => ∀ m, μ + 2 ≤ m → loopEv (L188_1 (ev Try.prog sg n) n) m [.list fs, .int i, stS D T true] = some (.x 2, [stS D' [] true])) ∨
    (NoSolS ops ∧ ∃ D' T', Evt fun n => ∀ m, μ + 2 ≤ m → loopEv (L188_1 (ev Try.prog sg n) n) m [.list fs, .int i, stS D T true] = some (.x 2, [stS D' T' false])) := by
  intro μ
  induction μ using Nat.strongRecOn with
  | ind μ ih =>
  intro D T hv hu hm
  rcases List.eq_nil_or_concat T with rfl | ⟨T0, t, rfl⟩
  · refine .inl ⟨D, hv, Evt.all fun n m hm => ?_⟩
    obtain ⟨m, rfl⟩ : ∃ m', m = m' + 1 := ⟨m - 1, by omega⟩
    have hB : L188_1 (ev Try.prog sg n) n [.list fs, .int i, stS D [] true] = some (.x 2, [stS D [] true]) := by simp (disch := omega) [L188_1, gtF]
    simp only [loopEv, hB, thenN_x, passE_eq]
  rw [List.concat_eq_append] at hv hu hm ⊢
  obtain ⟨k, rfl, hk, hd⟩ := hv.todo t (by simp)
  have hp := hv.pop hk
  have hu' : unset D + T0.length + 1 ≤ 3000 := by simp at hu; omega
  have hm' : unset D + (unset D + T0.length) + 1 ≤ μ := by simp at hm; omega
  have hone := oneS g hk hp hd (by omega)
  have hbody : ∀ (n : Nat) (r : PV), ev Try.prog sg n 216 [stS D T0 true, .list ops, .int k] = some [r] → L188_1 (ev Try.prog sg n) n [.list fs, .int i, stS D (T0 ++ [(k : Int)]) true] = some (.n, [.list fs, .int i, r]) := fun n r q1 => by
    obtain ⟨tl, hT⟩ : ∃ tl, tl = T0.map PV.int := ⟨_, rfl⟩
    have hst : stS D (T0 ++ [(k : Int)]) true = .agg [ints D, .list (tl ++ [.int k]), .bool true] := by rw [hT]; simp
    have hst2 : stS D T0 true = .agg [ints D, .list tl, .bool true] := by rw [hT]
    have htl : tl.length = T0.length := by rw [hT]; exact map_len T0
    rw [hst2] at q1
    rw [hst]
    have hL : (tl ++ [PV.int k]).length = tl.length + 1 := by simp
    have hW : IntKind.i64.wrap (((tl ++ [PV.int k]).length : Int) - 1) = (tl.length : Int) := by rw [wrap64 (by omega) (by omega)]; omega
    have e1 := nth_end tl (.int k)
    have e2 := take_end tl (.int k)
    simp (disch := omega) only [L188_1, nth_0, nth_1, nth_2, fld_agg, sf0, sf1, sf2, toInt_int, toList_list, hW, Int.toNat_natCast, e1, e2, hq, q1, Option.bind_some, gtT, geT, ltT, leT, leNT, List.length_nil, Nat.zero_add, List.nil_append, iff_true', iff_false', selB_true, selB_false, isB_bool, toBool_bool, beq_self_eq_true]
  rcases hone with ⟨D', T', k1, k2, k3, k4⟩ | ⟨k1, D', T', k2⟩
  · rcases ih (unset D' + (unset D' + T'.length)) (by omega) D' T' k1 (by omega) (Nat.le_refl _) with ⟨D'', j1, j2⟩ | ⟨j1, D2, T2, j2⟩
    · refine .inl ⟨D'', j1, Evt.mp2 k4 j2 fun n q1 q2 m hm => ?_⟩
      obtain ⟨m, rfl⟩ : ∃ m', m = m' + 1 := ⟨m - 1, by omega⟩
      simp only [loopEv, hbody n _ q1, thenN_n]
      exact q2 m (by omega)
    · refine .inr ⟨j1, D2, T2, Evt.mp2 k4 j2 fun n q1 q2 m hm => ?_⟩
      obtain ⟨m, rfl⟩ : ∃ m', m = m' + 1 := ⟨m - 1, by omega⟩
      simp only [loopEv, hbody n _ q1, thenN_n]
      exact q2 m (by omega)
  · refine .inr ⟨k1, D', T', k2.mp fun n q1 m hm => ?_⟩
    obtain ⟨m, rfl⟩ : ∃ m', m = m' + 2 := ⟨m - 2, by omega⟩
    have hB : L188_1 (ev Try.prog sg n) n [.list fs, .int i, stS D' T' false] = some (.x 2, [stS D' T' false]) := by simp (disch := omega) [L188_1]
    simp only [loopEv, hbody n _ q1, thenN_n, hB, thenN_x, passE_eq]

/-! ### Where it starts -/
theorem gd_fresh (N k : Nat) : gd (List.replicate N (-1)) k = -1 := by
  unfold gd
  simp only [List.getD_eq_getElem?_getD, List.getElem?_replicate]
  split <;> rfl
theorem gd_start {N : Nat} (hN : 1 ≤ N) (k : Nat) : gd ((List.replicate N (-1 : Int)).set 0 1) k = if k = 0 then 1 else -1 := by
  rw [gd_set _ _ _ _ (by simp; omega), gd_fresh]
theorem unset_start {N : Nat} (hN : 1 ≤ N) : unset ((List.replicate N (-1 : Int)).set 0 1) + 1 = N := by
  rw [unset_set _ 0 1 (by simp; omega) (gd_fresh N 0) (by decide)]
  simp [unset]
theorem Inv.start {N : Nat} (hN : 1 ≤ N) (chk : Nat → Int → Prop) (nx : Nat → List Int) (bh : Nat → Int → Int) : Inv N chk nx bh ((List.replicate N (-1 : Int)).set 0 1) [0] where
  len := by simp
  zero := gd_start hN 0
  rng := fun k hk => by
    rw [gd_start hN]; split
    · exact .inr ⟨by omega, by omega⟩
    · exact .inl rfl
  todo := fun t ht => by
    simp only [List.mem_singleton] at ht
    exact ⟨0, ht, by omega, by rw [gd_start hN]; decide⟩
  forced := fun E he k hk hd => by
    rw [gd_start hN] at hd ⊢
    split at hd
    · rename_i e; subst e; simpa using he.zero
    · exact absurd rfl hd
  closed := fun k hk hd => by
    rw [gd_start hN] at hd
    split at hd
    · rename_i e; subst e; exact .inl (by simp)
    · exact absurd rfl hd

/-! ### What the first check gives -/
theorem opB_facts {l : List PV} {free at_ c n m : Int} {len : Nat} (hl : l.length ≤ 1048576) (h1 : 1 ≤ len) (h2 : len ≤ 3000) (h : opB l free len at_ c n m = true) :
    1 ≤ c ∧ c ≤ 21 ∧ (c = 8 → 0 ≤ m ∧ m ≤ 20) ∧ (c = 5 → 1 ≤ n ∧ n < l.length ∧ m = ((nth l n.toNat).fld 0).toInt) ∧ (c = 18 ∨ c = 19 → 0 ≤ n ∧ n < len) ∧ (c = 10 ∨ c = 11 → 0 ≤ m ∧ m < len) := by
  have w1 : IntKind.i64.wrap ((len : Int) - 1) = (len : Int) - 1 := wrap64 (by omega) (by omega)
  have w2 := wrap_len l hl
  simp only [opB, w1, w2] at h
  repeat' (split at h)
  all_goals
    simp only [Bool.and_eq_true, okR, eqI, decide_eq_true_eq, beq_iff_eq] at h
    omega
theorem okF_good {l ops : List PV} {free : Int} {i : Nat} (hl : l.length ≤ 1048576) (hall : ∀ j, j < l.length → 0 ≤ ((nth l j).fld 0).toInt ∧ ((nth l j).fld 0).toInt ≤ 20) (hi : i < l.length) (hq : nth l i = .agg [.int free, .list ops]) (he : ∀ o, o ∈ ops → ∃ c n m : Int, o = .agg [.int c, .int n, .int m]) (h : okF l i = true) : OpsGood ops := by
  simp only [okF, hq, fld_agg, nth_0, nth_1, toInt_int, toList_list, Bool.and_eq_true] at h
  obtain ⟨c1, c2, c3, c4⟩ := h
  have r2 := okR_in c2
  have hf : ∀ k, k < ops.length → _ := fun k hk => opB_facts (len := ops.length) (free := free) (at_ := (i : Int)) (c := opc ops k) (n := opn ops k) (m := opm ops k) hl (by omega) (by omega) (by
    have := List.all_eq_true.1 c3 k (by simpa using hk)
    first | exact this | simpa [opV, opc, opn, opm] using this)
  have heff : ∀ k, k < ops.length → 0 ≤ effT (opc ops k) (opm ops k) ∧ effT (opc ops k) (opm ops k) ≤ 20 := fun k hk => by
    obtain ⟨_, _, g8, g5, _, _⟩ := hf k hk
    unfold effT
    split
    · omega
    split
    · rename_i e
      rcases e with e | e
      · obtain ⟨a1, a2, a3⟩ := g5 e
        have := hall (opn ops k).toNat (by omega)
        rw [← a3] at this
        exact this
      · exact g8 e
    split
    · omega
    split <;> omega
  refine ⟨by omega, by omega, fun k hk => ⟨?_, (hf k hk).1, (hf k hk).2.1⟩, heff, fun k s hk hs => ?_⟩
  · obtain ⟨c, n, m, e⟩ := he _ (nth_mem hk)
    simp [opc, opn, opm, e]
  · obtain ⟨g1, g2, g8, g5, gn, gm⟩ := hf k hk
    have hlast : k + 1 = ops.length → opc ops k = 7 ∨ opc ops k = 19 ∨ opc ops k = 21 := fun e => by
      have e2 : ops.length - 1 = k := by omega
      rw [e2] at c4
      have c4 : lastB (opc ops k) = true := c4
      simpa [lastB, eqI] using c4
    unfold nxD nxt at hs
    split at hs
    · simp at hs
    split at hs
    · simp only [List.mem_singleton] at hs; subst hs
      exact gn (by omega)
    split at hs
    · simp only [List.mem_cons, List.not_mem_nil, or_false] at hs
      have := gn (by omega)
      omega
    split at hs
    · simp only [List.mem_cons, List.not_mem_nil, or_false] at hs
      have := gm (by omega)
      omega
    · simp only [List.mem_singleton] at hs
      omega
theorem Sol.conv {N : Nat} {chk : Nat → Int → Prop} {nx nx' : Nat → List Int} {bh : Nat → Int → Int} (hn : ∀ k s, s ∈ nx k ↔ s ∈ nx' k) {E : List Int} (he : Sol N chk nx bh E) : Sol N chk nx' bh E :=
  ⟨he.len, he.zero, fun k hk hd => ⟨(he.ok k hk hd).1, fun s hs => (he.ok k hk hd).2 s ((hn k s).2 hs)⟩⟩
theorem fill_step (N k : Nat) (a b : PV) (h : k < N) : (List.replicate k a ++ List.replicate (N - k) b).set k a = List.replicate (k + 1) a ++ List.replicate (N - (k + 1)) b := by
  have e : N - k = (N - (k + 1)) + 1 := by omega
  have := set_mid (List.replicate k a) (List.replicate (N - (k + 1)) b) b a
  rw [List.length_replicate] at this
  rw [e, List.replicate_succ, this, List.replicate_succ', List.append_assoc]
  rfl
theorem initI {ops : List PV} (ho : ops.length ≤ 3000) : Evt fun n => loopEv (L190_0 (ev Try.prog sg n) n) n [.int 0, .int ops.length, .list ops, .list (List.replicate ops.length (.int 0))] = some (.x 0, [.list ops, .list (List.replicate ops.length (.int (-1)))]) := by
  have := loop_run (body := fun n => L190_0 (ev Try.prog sg n) n) (fun k => [.int k, .int ops.length, .list ops, .list (List.replicate k (.int (-1)) ++ List.replicate (ops.length - k) (.int 0))]) ops.length (e := .x 0) (res := [.list ops, .list (List.replicate ops.length (.int (-1)))]) (fun k hk => Evt.all fun n => ?_) (Evt.all fun n => ?_) (by simp)
  · simpa using this
  · have hlen : (List.replicate k (PV.int (-1)) ++ List.replicate (ops.length - k) (PV.int 0)).length = ops.length := by simp; omega
    have := fill_step ops.length k (.int (-1)) (.int 0) hk
    simp (disch := omega) only [L190_0, nth_0, nth_1, nth_2, nth_3, toInt_int, toList_list, ltT, geT, hlen, iff_true', Int.toNat_natCast, this, wrap64]
    simp
  · simp (disch := omega) [L190_0, ltF]
theorem initS {fs ops : List PV} {i : Nat} {free : PV} (ho : ops.length ≤ 3000) (hi : i < fs.length) (hq : nth fs i = .agg [free, .list ops]) :
    Evt fun n => loopEv (L188_0 (ev Try.prog sg n) n) n [.int 0, .list fs, .int i, .agg [.list [], .list [], .bool true]] = some (.x 0, [.list fs, .int i, stS (List.replicate ops.length (-1)) [] true]) := by
  refine loop_run (body := fun n => L188_0 (ev Try.prog sg n) n) (fun k => [.int k, .list fs, .int i, .agg [.list (List.replicate k (.int (-1))), .list [], .bool true]]) ops.length (fun k hk => Evt.all fun n => ?_) (Evt.all fun n => ?_) (by simp)
  · have e : List.replicate k (PV.int (-1)) ++ [PV.int (-1)] = List.replicate (k + 1) (.int (-1)) := by rw [List.replicate_succ']
    simp (disch := omega) only [L188_0, nth_0, nth_1, nth_2, nth_3, fld_agg, sf0, toInt_int, toList_list, ltT, geT, Int.toNat_natCast, hq, leNT, List.length_replicate, List.length_singleton, iff_true', e, wrap64]
    simp
  · simp (disch := omega) [L188_0, ltF, geT, ltT, hq]
theorem depths {l : List PV} (hl : l.length ≤ 1048576) (hf : ∀ q, q ∈ l → FunOk q) (p : Int) : ∃ (out : List Int) (ok : Bool), out.length ≤ 3000 ∧ (∀ x, x ∈ out → -1 ≤ x ∧ x ≤ 60) ∧ (ok = true → funsOk l = true) ∧ Rn 190 [.list l, .int p] [ints out, .bool ok] ∧ Rn 188 [.list l, .int p] [ints out, .bool ok] := by
  have h44 := fun44 hl hf
  have h41 := fun41 hl hf
  have hw54 := is54 p 0 (IntKind.i64.wrap ((l.length : Int) - 1))
  have hw51 := is51 p 0 (IntKind.i64.wrap ((l.length : Int) - 1))
  cases hok : funsOk l with
  | false =>
    rw [hok] at h44 h41
    exact ⟨[], false, by simp, by simp, by simp, Is.of e190 (h44.mp fun n q1 => by simp [F190, q1]), Is.of e188 (h41.mp fun n q1 => by simp [F188, q1])⟩
  | true =>
  rw [hok] at h44 h41
  cases hin : okR p 0 (IntKind.i64.wrap ((l.length : Int) - 1)) with
  | false =>
    rw [hin] at hw54 hw51
    exact ⟨[], false, by simp, by simp, by simp, Is.of e190 (h44.mp2 hw54 fun n q1 q2 => by simp [F190, q1, q2]), Is.of e188 (h41.mp2 hw51 fun n q1 q2 => by simp [F188, q1, q2])⟩
  | true =>
  rw [hin] at hw54 hw51
  have hr := okR_in hin
  rw [wrap_len l hl] at hr
  obtain ⟨i, rfl⟩ : ∃ i : Nat, p = (i : Int) := ⟨p.toNat, by omega⟩
  have hi : i < l.length := by omega
  have hok0 := hok
  simp only [funsOk, Bool.and_eq_true] at hok
  have hokF := fun j (hj : j < l.length) => List.all_eq_true.1 hok.2.2 j (by simpa using hj)
  have hfree : ∀ j, j < l.length → 0 ≤ ((nth l j).fld 0).toInt ∧ ((nth l j).fld 0).toInt ≤ 20 := fun j hj => by
    have := hokF j hj
    simp only [okF, Bool.and_eq_true] at this
    exact okR_in this.1
  obtain ⟨free, ops, hq, ho, he⟩ := hf _ (nth_mem hi)
  have g := okF_good hl hfree hi hq he (hokF i hi)
  have hN := g.pos
  have hN3 := g.len
  have hu := unset_start hN
  have hst := Inv.start hN (chkD ops) (nxD ops) (bhD ops)
  have hstS := Inv.start hN (chkD ops) (nxDS ops) (bhD ops)
  have hconv : ∀ k s, s ∈ nxD ops k ↔ s ∈ nxDS ops k := fun k s => nxt_iff _ _ _ _ _
  have kI := outerI g 6000 _ _ hst (by simp; omega) (by simp; omega)
  have kS := outerS g hi hq 6000 _ _ hstS (by simp; omega) (by simp; omega)
  have hiI := initI hN3
  have hiS := initS hN3 hi hq
  have hrep : List.replicate ops.length (PV.int (-1)) = (List.replicate ops.length (-1 : Int)).map PV.int := by simp
  have hgo : Rn 215 [stS (List.replicate ops.length (-1)) [] true, .int 0, .int 1] [stS ((List.replicate ops.length (-1)).set 0 1) [0] true] := by
    have := go_new (D := List.replicate ops.length (-1)) (T := []) (ok := true) (s := 0) (b := 1) (by simp; omega) (by decide) (by rw [gd_fresh]; decide) (by simp)
    exact this
  have hset : (List.replicate ops.length (PV.int (-1))).set 0 (.int 1) = ((List.replicate ops.length (-1 : Int)).set 0 1).map PV.int := by rw [hrep, set_map]
  have hI : ∀ r, (Evt fun n => ∀ m, 6000 + 1 ≤ m → loopEv (L190_2 (ev Try.prog sg n) n) m [ints [0], .list ops, ints ((List.replicate ops.length (-1 : Int)).set 0 1)] = some r) → ∀ r2, thenN (thenE (some r) (passB 2)) (fun p11 => (some [(nth p11 0), (PV.bool true)])) (retE fun q12 => [(nth q12 0), (nth q12 1)]) = some r2 → Rn 190 [.list l, .int i] r2 := fun r hr r2 hr2 => by
    refine Is.of e190 ((h44.and hw54).mp3 hiI ((Evt.ge 6001).and hr) fun n ⟨q1, q2⟩ q3 ⟨q0, q4⟩ => ?_)
    have q5 := q4 n (by omega)
    have e0 : ints [0] = .list [.int 0] := rfl
    rw [e0] at q5
    simp only [ints] at q5
    simp (disch := omega) only [F190, nth_0, nth_1, toInt_int, toList_list, toBool_bool, q1, q2, q3, hq, fld_agg, Option.bind_some, Bool.not_true, Bool.not_false, beq_self_eq_true, selB_true, selB_false, iff_true', iff_false', Int.toNat_natCast, geT, ltT, leT, List.length_replicate, thenE_some, passB_same, thenN_n]
    rw [show Int.toNat 0 = 0 from rfl, hset, q5]
    exact hr2
  have hS : ∀ D' T' ok, (Evt fun n => ∀ m, 6000 + 2 ≤ m → loopEv (L188_1 (ev Try.prog sg n) n) m [.list l, .int i, stS ((List.replicate ops.length (-1 : Int)).set 0 1) [0] true] = some (.x 2, [stS D' T' ok])) → Rn 188 [.list l, .int i] [if ok then ints D' else .list [], .bool ok] := fun D' T' ok hr => by
    refine Is.of e188 ((h41.and hw51).mp4 hiS hgo ((Evt.ge 6002).and hr) fun n ⟨q1, q2⟩ q3 q6 ⟨q0, q4⟩ => ?_)
    have q5 := q4 n (by omega)
    simp (disch := omega) only [F188, nth_0, nth_1, nth_2, toInt_int, toList_list, toBool_bool, q1, q2, q3, q6, q5, Option.bind_some, Bool.not_true, Bool.not_false, beq_self_eq_true, selB_true, selB_false, iff_true', iff_false', thenE_some, passB_same, thenN_n]
    cases ok <;> rfl
  rcases kI with ⟨D, k1, k2⟩ | ⟨k1, k2⟩
  · rcases kS with ⟨D', j1, j2⟩ | ⟨j1, _⟩
    · have hDD : D = D' := Sol.unique hconv k1 j1
      subst hDD
      refine ⟨D, true, by rw [k1.len]; exact hN3, fun x hx => ?_, fun _ => by first | exact hok0 | rfl, hI _ k2 _ (by simp), by simpa using hS D [] true j2⟩
      obtain ⟨k, hk, rfl⟩ := List.getElem_of_mem hx
      have hk2 := k1.rng k (by rw [← k1.len]; exact hk)
      have e : gd D k = D[k] := by unfold gd; simp [List.getD_eq_getElem?_getD, hk]
      rw [e] at hk2
      omega
    · exact absurd (k1.sol.conv hconv) (j1 D)
  · rcases kS with ⟨D', j1, j2⟩ | ⟨j1, D', T', j2⟩
    · exact absurd (j1.sol.conv fun k s => (hconv k s).symm) (k1 D')
    · exact ⟨[], false, by simp, by simp, by simp, hI _ k2 _ (by simp), hS D' T' false j2⟩
end Go.Proofs.Ytijgokehlicmnaa.GFnExactVmNew
