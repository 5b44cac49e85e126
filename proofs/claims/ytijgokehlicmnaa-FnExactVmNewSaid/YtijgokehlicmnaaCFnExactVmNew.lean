/- What functions of the program and of the reference come to, for the law FnExactVmNew. Each under the conditions that it names. -/
import Derived.Test.YtijgokehlicmnaaBFnExactVmNew
namespace Go.Proofs.Ytijgokehlicmnaa.GFnExactVmNew
open Go Go.Rsc Go.Proofs.Ytijgokehlicmnaa
set_option maxRecDepth 100000
set_option linter.unusedVariables false
set_option linter.unusedSimpArgs false
/-! ### Depths: a walk through a function -/
def nxtS (c n m : Int) (at_ : Nat) : List Int := if c = 7 ∨ c = 21 then [] else if c = 19 then [n] else if c = 18 then [n, (at_ : Int) + 1] else if c = 10 ∨ c = 11 then [m, (at_ : Int) + 1] else [(at_ : Int) + 1]
theorem nxt_iff (c n m : Int) (at_ : Nat) (s : Int) : s ∈ nxt c n m at_ ↔ s ∈ nxtS c n m at_ := by
  unfold nxt nxtS
  by_cases h1 : c = 7 ∨ c = 21
  · simp [h1]
  by_cases h2 : c = 19
  · simp [h1, h2]
  by_cases h3 : c = 18
  · simp [h1, h2, h3, or_comm]
  by_cases h4 : c = 10 ∨ c = 11
  · simp [h1, h2, h3, h4, or_comm]
  · simp [h1, h2, h3, h4]
def opc (ops : List PV) (k : Nat) : Int := ((nth ops k).fld 0).toInt
def opn (ops : List PV) (k : Nat) : Int := ((nth ops k).fld 1).toInt
def opm (ops : List PV) (k : Nat) : Int := ((nth ops k).fld 2).toInt
def chkD (ops : List PV) (k : Nat) (d : Int) : Prop := effT (opc ops k) (opm ops k) ≤ d - 1 ∧ ¬ (opc ops k = 2 ∧ d ≤ opn ops k) ∧ ¬ (opc ops k = 7 ∧ d ≠ 2) ∧ d - effT (opc ops k) (opm ops k) + effP (opc ops k) ≤ 60
def bhD (ops : List PV) (k : Nat) (d : Int) : Int := d - effT (opc ops k) (opm ops k) + effP (opc ops k)
def nxD (ops : List PV) (k : Nat) : List Int := nxt (opc ops k) (opn ops k) (opm ops k) k
def nxDS (ops : List PV) (k : Nat) : List Int := nxtS (opc ops k) (opn ops k) (opm ops k) k
structure OpsGood (ops : List PV) : Prop where
  pos : 1 ≤ ops.length
  len : ops.length ≤ 3000
  op : ∀ k, k < ops.length → nth ops k = .agg [.int (opc ops k), .int (opn ops k), .int (opm ops k)] ∧ 1 ≤ opc ops k ∧ opc ops k ≤ 21
  eff : ∀ k, k < ops.length → 0 ≤ effT (opc ops k) (opm ops k) ∧ effT (opc ops k) (opm ops k) ≤ 20
  nx : ∀ k s, k < ops.length → s ∈ nxD ops k → 0 ≤ s ∧ s < ops.length
theorem effP_01 (c : Int) : 0 ≤ effP c ∧ effP c ≤ 1 := by unfold effP; split <;> omega
theorem chkD_bh (ops : List PV) (k : Nat) (d : Int) (h : chkD ops k d) : 1 ≤ bhD ops k d ∧ bhD ops k d ≤ 60 := by
  obtain ⟨h1, _, _, h4⟩ := h
  have := effP_01 (opc ops k)
  unfold bhD
  omega
theorem OpsGood.nxS {ops : List PV} (g : OpsGood ops) (k : Nat) (s : Int) (hk : k < ops.length) (hs : s ∈ nxDS ops k) : 0 ≤ s ∧ s < ops.length := g.nx k s hk ((nxt_iff _ _ _ _ _).2 hs)
abbrev InvI (ops : List PV) := Inv ops.length (chkD ops) (nxD ops) (bhD ops)
abbrev InvS (ops : List PV) := Inv ops.length (chkD ops) (nxDS ops) (bhD ops)
abbrev PInvI (ops : List PV) := PInv ops.length (chkD ops) (nxD ops) (bhD ops)
abbrev PInvS (ops : List PV) := PInv ops.length (chkD ops) (nxDS ops) (bhD ops)
abbrev NoSol (ops : List PV) : Prop := ∀ E, ¬ Sol ops.length (chkD ops) (nxD ops) (bhD ops) E
abbrev NoSolS (ops : List PV) : Prop := ∀ E, ¬ Sol ops.length (chkD ops) (nxDS ops) (bhD ops) E
theorem nth_end (l : List PV) (x : PV) : nth (l ++ [x]) l.length = x := nth_mid l [] x
theorem take_end (l : List PV) (x : PV) : (l ++ [x]).take l.length = l := by simp
abbrev ints (l : List Int) : PV := .list (l.map PV.int)
/-- A place that is wrong has no way on. -/
theorem PInv.bad {N : Nat} {chk : Nat → Int → Prop} {nx : Nat → List Int} {bh : Nat → Int → Int} {at_ : Nat} {d : Int} {don D T : List Int} (h : PInv N chk nx bh at_ d don D T) (ha : at_ < N) (hd : d ≠ -1) (hc : ¬ chk at_ d) : ∀ E, ¬ Sol N chk nx bh E := fun E he => by
  have e1 := h.forced E he at_ ha (by rw [h.at_eq]; exact hd)
  rw [h.at_eq] at e1
  have := (he.ok at_ ha (by rw [e1]; exact hd)).1
  rw [e1] at this
  exact hc this
theorem go_r (r : List PV) (B : List PV → Option (Ex × List PV)) : thenN (some (.r, r)) B passE = some (.r, r) := rfl

theorem innerI {ops : List PV} (g : OpsGood ops) {at_ : Nat} (ha : at_ < ops.length) {d : Int} (hd : d ≠ -1) (hc : chkD ops at_ d) : ∀ (todo don D T : List Int), nxD ops at_ = don ++ todo → PInvI ops at_ d don D T → unset D + T.length ≤ 3000 →
    (∃ D' T', PInvI ops at_ d (don ++ todo) D' T' ∧ unset D' ≤ unset D ∧ unset D' + T'.length = unset D + T.length ∧
      Evt fun n => ∀ m, todo.length + 1 ≤ m → loopEv (L190_1 (ev Try.prog sg n) n) m [.int don.length, .int (don ++ todo).length, ints (don ++ todo), .int (bhD ops at_ d), ints T, .list ops, ints D] = some (.x 4, [ints T', .list ops, ints D'])) ∨
    (NoSol ops ∧ Evt fun n => ∀ m, todo.length + 1 ≤ m → loopEv (L190_1 (ev Try.prog sg n) n) m [.int don.length, .int (don ++ todo).length, ints (don ++ todo), .int (bhD ops at_ d), ints T, .list ops, ints D] = some (.r, [.list [], .bool false]))
  | [], don, D, T, _, hp, _ => by
    refine .inl ⟨D, T, by simpa using hp, Nat.le_refl _, rfl, Evt.all fun n m hm => ?_⟩
    obtain ⟨m, rfl⟩ : ∃ m', m = m' + 1 := ⟨m - 1, by omega⟩
    have hB : L190_1 (ev Try.prog sg n) n [.int don.length, .int (don ++ []).length, ints (don ++ []), .int (bhD ops at_ d), ints T, .list ops, ints D] = some (.x 4, [ints T, .list ops, ints D]) := by
      simp (disch := omega) [L190_1, ltF]
    simp only [loopEv, hB, thenN_x, passE_eq]
  | x :: todo, don, D, T, hn, hp, hu => by
    have hmem : x ∈ nxD ops at_ := by rw [hn]; simp
    obtain ⟨x0, xN⟩ := g.nx at_ x ha hmem
    obtain ⟨s, rfl⟩ : ∃ s : Nat, x = (s : Int) := ⟨x.toNat, by omega⟩
    obtain ⟨p1, p2, p3⟩ := hp.put (chkD_bh ops) g.nx ha hd hc hmem
    have hlenD := hp.len
    have hsD : s < D.length := by omega
    have hnl : (don ++ (s : Int) :: todo).length ≤ 3000 := by
      have : (nxD ops at_).length ≤ 2 := by unfold nxD nxt; split <;> (try split) <;> (try split) <;> (try split) <;> simp
      rw [← hn]; omega
    have hnth : nth ((don ++ (s : Int) :: todo).map PV.int) don.length = .int s := by
      rw [List.map_append, List.map_cons]
      have := nth_mid (don.map PV.int) (todo.map PV.int) (.int s)
      rwa [List.length_map] at this
    have hlm : ∀ l : List Int, (l.map PV.int).length = l.length := fun l => List.length_map ..
    have hD := nth_map (D := D) hsD
    have hlen1 : don.length < (don ++ (s : Int) :: todo).length := by simp
    have hdon : don ++ [(s : Int)] ++ todo = don ++ (s : Int) :: todo := by simp
    have hdl : (don ++ [(s : Int)]).length = don.length + 1 := by simp
    by_cases h1 : gd D s = -1
    · have hp' := p1 h1
      have hb := chkD_bh ops at_ d hc
      have hun := unset_set D s (bhD ops at_ d) hsD h1 (by omega)
      have hB : ∀ n, L190_1 (ev Try.prog sg n) n [.int don.length, .int (don ++ (s : Int) :: todo).length, ints (don ++ (s : Int) :: todo), .int (bhD ops at_ d), ints T, .list ops, ints D] = some (.n, [.int (don ++ [(s : Int)]).length, .int (don ++ (s : Int) :: todo).length, ints (don ++ (s : Int) :: todo), .int (bhD ops at_ d), ints (T ++ [(s : Int)]), .list ops, ints (D.set s (bhD ops at_ d))]) := fun n => by
        simp (disch := omega) only [L190_1, nth_0, nth_1, nth_2, nth_3, nth_4, nth_5, nth_6, toInt_int, toList_list, ltT, geT, eqT, leNT, hlm, Int.toNat_natCast, hnth, hD, h1, iff_true', iff_false', thenN_n, wrap64, hdl, set_map, List.length_singleton]
        simp
      have key := innerI g ha hd hc todo (don ++ [(s : Int)]) (D.set s (bhD ops at_ d)) (T ++ [(s : Int)]) (by rw [hdon]; exact hn) hp' (by simp; omega)
      rw [hdon] at key
      rcases key with ⟨D', T', k1, k2, k3, k4⟩ | ⟨k1, k2⟩
      · refine .inl ⟨D', T', k1, by omega, by simp at k3; omega, k4.mp fun n h m hm => ?_⟩
        obtain ⟨m, rfl⟩ : ∃ m', m = m' + 1 := ⟨m - 1, by omega⟩
        simp only [loopEv, hB, thenN_n]
        exact h m (by simp at hm; omega)
      · refine .inr ⟨k1, k2.mp fun n h m hm => ?_⟩
        obtain ⟨m, rfl⟩ : ∃ m', m = m' + 1 := ⟨m - 1, by omega⟩
        simp only [loopEv, hB, thenN_n]
        exact h m (by simp at hm; omega)
    by_cases h2 : gd D s = bhD ops at_ d
    · have hp' := p2 h2
      have hB : ∀ n, L190_1 (ev Try.prog sg n) n [.int don.length, .int (don ++ (s : Int) :: todo).length, ints (don ++ (s : Int) :: todo), .int (bhD ops at_ d), ints T, .list ops, ints D] = some (.n, [.int (don ++ [(s : Int)]).length, .int (don ++ (s : Int) :: todo).length, ints (don ++ (s : Int) :: todo), .int (bhD ops at_ d), ints T, .list ops, ints D]) := fun n => by
        simp (disch := omega) only [L190_1, nth_0, nth_1, nth_2, nth_3, nth_4, nth_5, nth_6, toInt_int, toList_list, ltT, geT, eqF h1, neF h2, hlm, Int.toNat_natCast, hnth, hD, iff_true', iff_false', thenN_n, wrap64, hdl]
        simp
      have key := innerI g ha hd hc todo (don ++ [(s : Int)]) D T (by rw [hdon]; exact hn) hp' hu
      rw [hdon] at key
      rcases key with ⟨D', T', k1, k2, k3, k4⟩ | ⟨k1, k2⟩
      · refine .inl ⟨D', T', k1, k2, k3, k4.mp fun n h m hm => ?_⟩
        obtain ⟨m, rfl⟩ : ∃ m', m = m' + 1 := ⟨m - 1, by omega⟩
        simp only [loopEv, hB, thenN_n]
        exact h m (by simp at hm; omega)
      · refine .inr ⟨k1, k2.mp fun n h m hm => ?_⟩
        obtain ⟨m, rfl⟩ : ∃ m', m = m' + 1 := ⟨m - 1, by omega⟩
        simp only [loopEv, hB, thenN_n]
        exact h m (by simp at hm; omega)
    · refine .inr ⟨p3 h1 h2, Evt.all fun n m hm => ?_⟩
      obtain ⟨m, rfl⟩ : ∃ m', m = m' + 1 := ⟨m - 1, by omega⟩
      have hB : L190_1 (ev Try.prog sg n) n [.int don.length, .int (don ++ (s : Int) :: todo).length, ints (don ++ (s : Int) :: todo), .int (bhD ops at_ d), ints T, .list ops, ints D] = some (.r, [.list [], .bool false]) := by
        simp (disch := omega) only [L190_1, nth_0, nth_1, nth_2, nth_3, nth_4, nth_5, nth_6, toInt_int, toList_list, ltT, geT, eqF h1, neT h2, hlm, Int.toNat_natCast, hnth, hD, iff_true', iff_false', thenN_r, passE_eq]
      simp only [loopEv, hB, go_r]
theorem nx_len (ops : List PV) (k : Nat) : (nxD ops k).length ≤ 2 := by
  unfold nxD nxt; split <;> (try split) <;> (try split) <;> (try split) <;> simp
theorem map_len (l : List Int) : (l.map PV.int).length = l.length := List.length_map ..

theorem outerI {ops : List PV} (g : OpsGood ops) : ∀ (μ : Nat) (D T : List Int), InvI ops D T → unset D + T.length ≤ 3000 → unset D + (unset D + T.length) ≤ μ →
    (∃ D', InvI ops D' [] ∧ Evt fun n => ∀ m, μ + 1 ≤ m → loopEv (L190_2 (ev Try.prog sg n) n) m [ints T, .list ops, ints D] = some (.x 2, [ints D'])) ∨
    (NoSol ops ∧ Evt fun n => ∀ m, μ + 1 ≤ m → loopEv (L190_2 (ev Try.prog sg n) n) m [ints T, .list ops, ints D] = some (.r, [.list [], .bool false])) := by
  intro μ
  induction μ using Nat.strongRecOn with
  | ind μ ih =>
  intro D T hi hu hm
  rcases List.eq_nil_or_concat T with rfl | ⟨T0, t, rfl⟩
  · refine .inl ⟨D, hi, Evt.all fun n m hm => ?_⟩
    obtain ⟨m, rfl⟩ : ∃ m', m = m' + 1 := ⟨m - 1, by omega⟩
    have hB : L190_2 (ev Try.prog sg n) n [ints [], .list ops, ints D] = some (.x 2, [ints D]) := by simp (disch := omega) [L190_2, gtF]
    simp only [loopEv, hB, thenN_x, passE_eq]
  rw [List.concat_eq_append] at hi hu hm ⊢
  obtain ⟨k, rfl, hk, hd⟩ := hi.todo t (by simp)
  have hr := (hi.rng k hk).resolve_left hd
  have hp := hi.pop hk
  have hlD := hi.len
  obtain ⟨hop, hc1, hc21⟩ := g.op k hk
  obtain ⟨he0, he20⟩ := g.eff k hk
  have hP := effP_01 (opc ops k)
  have hlen3 := g.len
  have hu' : unset D + T0.length + 1 ≤ 3000 := by simp at hu; omega
  have hm' : unset D + (unset D + T0.length) + 1 ≤ μ := by simp at hm; omega
  have hE : Rn 218 [nth ops k] [.int (effT (opc ops k) (opm ops k)), .int (effP (opc ops k))] := by rw [hop]; exact effI _ _ hc1 hc21
  have hN : Rn 219 [nth ops k, .int k] [.list ((nxD ops k).map PV.int)] := by
    have := nxtI (opn ops k) (opm ops k) k (by omega) hc1 hc21
    rw [hop]; exact this
  obtain ⟨tl, hT⟩ : ∃ tl, tl = T0.map PV.int := ⟨_, rfl⟩
  have hst : ints (T0 ++ [(k : Int)]) = .list (tl ++ [.int k]) := by rw [hT]; simp
  have htl : tl.length = T0.length := by rw [hT]; exact map_len T0
  rw [hst]
  have hL : (tl ++ [PV.int k]).length = tl.length + 1 := by simp
  have hW : IntKind.i64.wrap (((tl ++ [PV.int k]).length : Int) - 1) = (tl.length : Int) := by rw [wrap64 (by omega) (by omega)]; omega
  have e1 := nth_end tl (.int k)
  have e2 := take_end tl (.int k)
  have hD := nth_map (D := D) (k := k) (by omega)
  have hlm := map_len D
  have c0 : ((nth ops k).fld 0).toInt = opc ops k := rfl
  have n0 : ((nth ops k).fld 1).toInt = opn ops k := rfl
  have w1 : IntKind.i64.wrap (gd D k - 1) = gd D k - 1 := wrap64 (by omega) (by omega)
  have w2 : IntKind.i64.wrap (IntKind.i64.wrap (gd D k - effT (opc ops k) (opm ops k)) + effP (opc ops k)) = bhD ops k (gd D k) := by
    rw [wrap64 (x := gd D k - effT (opc ops k) (opm ops k)) (by omega) (by omega), wrap64 (by omega) (by omega)]; rfl
  by_cases hc : chkD ops k (gd D k)
  · have hc' := hc
    obtain ⟨a1, a2, a3, a4⟩ := hc'
    have hb60 : bhD ops k (gd D k) ≤ 60 := a4
    have hfuel := nx_len ops k
    have key := innerI g hk hd hc (nxD ops k) [] D T0 rfl hp (by omega)
    have hbody : ∀ (n : Nat) (r : Option (Ex × List PV)), ev Try.prog sg n 218 [nth ops k] = some [.int (effT (opc ops k) (opm ops k)), .int (effP (opc ops k))] → ev Try.prog sg n 219 [nth ops k, .int k] = some [.list ((nxD ops k).map PV.int)] →
        loopEv (L190_1 (ev Try.prog sg n) n) n [.int 0, .int (nxD ops k).length, .list ((nxD ops k).map PV.int), .int (bhD ops k (gd D k)), .list tl, .list ops, ints D] = r →
        L190_2 (ev Try.prog sg n) n [.list (tl ++ [.int k]), .list ops, ints D] = thenN (thenE r (passB 4)) (fun p10 => (some (Ex.n, [(nth p10 0), (nth p10 1), (nth p10 2)]))) passE := fun n r q1 q2 q3 => by
      by_cases x2 : opc ops k = 2
      · have : ¬ gd D k ≤ opn ops k := fun h => a2 ⟨x2, h⟩
        simp (disch := omega) only [L190_2, nth_0, nth_1, nth_2, toInt_int, toList_list, hW, Int.toNat_natCast, e1, e2, hD, c0, n0, w1, w2, q1, q2, q3, Option.bind_some, gtT, gtF, geT, geF, ltT, leT, eqT, eqF, neT, neF, hlm, map_len, iff_true', iff_false', selB_true, selB_false, isB_bool, toBool_bool, beqT, beqF, Bool.not_true, Bool.not_false, beq_self_eq_true]
      by_cases x7 : opc ops k = 7
      · have : gd D k = 2 := Classical.byContradiction fun h => a3 ⟨x7, h⟩
        simp (disch := omega) only [L190_2, nth_0, nth_1, nth_2, toInt_int, toList_list, hW, Int.toNat_natCast, e1, e2, hD, c0, n0, w1, w2, q1, q2, q3, Option.bind_some, gtT, gtF, geT, geF, ltT, leT, eqT, eqF, neT, neF, hlm, map_len, iff_true', iff_false', selB_true, selB_false, isB_bool, toBool_bool, beqT, beqF, Bool.not_true, Bool.not_false, beq_self_eq_true]
      · simp (disch := omega) only [L190_2, nth_0, nth_1, nth_2, toInt_int, toList_list, hW, Int.toNat_natCast, e1, e2, hD, c0, n0, w1, w2, q1, q2, q3, Option.bind_some, gtT, gtF, geT, geF, ltT, leT, eqT, eqF, neT, neF, hlm, map_len, iff_true', iff_false', selB_true, selB_false, isB_bool, toBool_bool, beqT, beqF, Bool.not_true, Bool.not_false, beq_self_eq_true]
    subst hT
    rcases key with ⟨D', T', k1, k2, k3, k4⟩ | ⟨k1, k2⟩
    · have hI := k1.inv hc fun s hs => hs
      rcases ih (unset D' + (unset D' + T'.length)) (by omega) D' T' hI (by omega) (Nat.le_refl _) with ⟨D'', j1, j2⟩ | ⟨j1, j2⟩
      · refine .inl ⟨D'', j1, ((Evt.ge 4).and hE).mp4 hN k4 j2 fun n ⟨q0, q1⟩ q2 q3 q4 m hm => ?_⟩
        obtain ⟨m, rfl⟩ : ∃ m', m = m' + 1 := ⟨m - 1, by omega⟩
        simp only [loopEv, hbody n _ q1 q2 (q3 n (by omega)), thenE_some, passB_same, thenN_n, nth_0, nth_1, nth_2]
        exact q4 m (by omega)
      · refine .inr ⟨j1, ((Evt.ge 4).and hE).mp4 hN k4 j2 fun n ⟨q0, q1⟩ q2 q3 q4 m hm => ?_⟩
        obtain ⟨m, rfl⟩ : ∃ m', m = m' + 1 := ⟨m - 1, by omega⟩
        simp only [loopEv, hbody n _ q1 q2 (q3 n (by omega)), thenE_some, passB_same, thenN_n, nth_0, nth_1, nth_2]
        exact q4 m (by omega)
    · refine .inr ⟨k1, ((Evt.ge 4).and hE).mp3 hN k2 fun n ⟨q0, q1⟩ q2 q3 m hm => ?_⟩
      obtain ⟨m, rfl⟩ : ∃ m', m = m' + 1 := ⟨m - 1, by omega⟩
      simp only [loopEv, hbody n _ q1 q2 (q3 n (by omega)), thenE_some, passB_r, go_r]
  · have hbad := hp.bad hk hd hc
    have hbody : ∀ n : Nat, ev Try.prog sg n 218 [nth ops k] = some [.int (effT (opc ops k) (opm ops k)), .int (effP (opc ops k))] →
        L190_2 (ev Try.prog sg n) n [.list (tl ++ [.int k]), .list ops, ints D] = some (.r, [.list [], .bool false]) := fun n q1 => by
      have hc' : ¬ (effT (opc ops k) (opm ops k) ≤ gd D k - 1 ∧ ¬ (opc ops k = 2 ∧ gd D k ≤ opn ops k) ∧ ¬ (opc ops k = 7 ∧ gd D k ≠ 2) ∧ bhD ops k (gd D k) ≤ 60) := hc
      by_cases b1 : effT (opc ops k) (opm ops k) ≤ gd D k - 1
      rotate_left
      · simp (disch := omega) only [L190_2, nth_0, nth_1, nth_2, toInt_int, toList_list, hW, Int.toNat_natCast, e1, e2, hD, c0, n0, w1, w2, q1, Option.bind_some, gtT, gtF, geT, geF, ltT, leT, eqT, eqF, neT, neF, hlm, map_len, iff_true', iff_false', selB_true, selB_false, isB_bool, toBool_bool, beqT, beqF, Bool.not_true, Bool.not_false, beq_self_eq_true]
      by_cases x2 : opc ops k = 2
      · by_cases b2 : gd D k ≤ opn ops k
        · simp (disch := omega) only [L190_2, nth_0, nth_1, nth_2, toInt_int, toList_list, hW, Int.toNat_natCast, e1, e2, hD, c0, n0, w1, w2, q1, Option.bind_some, gtT, gtF, geT, geF, ltT, leT, eqT, eqF, neT, neF, hlm, map_len, iff_true', iff_false', selB_true, selB_false, isB_bool, toBool_bool, beqT, beqF, Bool.not_true, Bool.not_false, beq_self_eq_true]
        · simp (disch := omega) only [L190_2, nth_0, nth_1, nth_2, toInt_int, toList_list, hW, Int.toNat_natCast, e1, e2, hD, c0, n0, w1, w2, q1, Option.bind_some, gtT, gtF, geT, geF, ltT, leT, eqT, eqF, neT, neF, hlm, map_len, iff_true', iff_false', selB_true, selB_false, isB_bool, toBool_bool, beqT, beqF, Bool.not_true, Bool.not_false, beq_self_eq_true]
      by_cases x7 : opc ops k = 7
      · by_cases b2 : gd D k = 2
        · simp (disch := omega) only [L190_2, nth_0, nth_1, nth_2, toInt_int, toList_list, hW, Int.toNat_natCast, e1, e2, hD, c0, n0, w1, w2, q1, Option.bind_some, gtT, gtF, geT, geF, ltT, leT, eqT, eqF, neT, neF, hlm, map_len, iff_true', iff_false', selB_true, selB_false, isB_bool, toBool_bool, beqT, beqF, Bool.not_true, Bool.not_false, beq_self_eq_true]
        · simp (disch := omega) only [L190_2, nth_0, nth_1, nth_2, toInt_int, toList_list, hW, Int.toNat_natCast, e1, e2, hD, c0, n0, w1, w2, q1, Option.bind_some, gtT, gtF, geT, geF, ltT, leT, eqT, eqF, neT, neF, hlm, map_len, iff_true', iff_false', selB_true, selB_false, isB_bool, toBool_bool, beqT, beqF, Bool.not_true, Bool.not_false, beq_self_eq_true]
      · simp (disch := omega) only [L190_2, nth_0, nth_1, nth_2, toInt_int, toList_list, hW, Int.toNat_natCast, e1, e2, hD, c0, n0, w1, w2, q1, Option.bind_some, gtT, gtF, geT, geF, ltT, leT, eqT, eqF, neT, neF, hlm, map_len, iff_true', iff_false', selB_true, selB_false, isB_bool, toBool_bool, beqT, beqF, Bool.not_true, Bool.not_false, beq_self_eq_true]
    refine .inr ⟨hbad, hE.mp fun n q1 m hm => ?_⟩
    obtain ⟨m, rfl⟩ : ∃ m', m = m' + 1 := ⟨m - 1, by omega⟩
    simp only [loopEv, hbody n q1, go_r]
end Go.Proofs.Ytijgokehlicmnaa.GFnExactVmNew
