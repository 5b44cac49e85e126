/- Append, copy: the operations. No conditions. -/
import Derived.Test.YtdkfgnnebaahaaaRscS
import Derived.Laws.CopyRow
import Derived.Laws.IdiomCopy
import Derived.Lib.ConvBytes
namespace Go.Rsc
open Go.RowKit
set_option linter.unusedVariables false
set_option linter.unusedSimpArgs false

section
variable {P : Program} {w w' : World} {F F' : Set} {Γ : Nat → D} {σ : Nat → PV} {val : Nat → Value} {loc : Nat → Nat} {S : Nat → Set} {C : Cx} {tmps : Array Value}
variable {d d' x y : SD} {cs c : List Value} {p q : PV} {T T' : Set}
variable {a : Act} {o : Oper} {K : Act → World → Prop} {Q : Exit → Act → World → Prop} {dst : Nat} {v : Value} {I : Interp} {σ' : Nat → PV} {r : SR}

theorem sameTwo_ok {ts : Array TypeId} {t : TypeId} (h : sameTwo ts = some t) : ts = #[t, t] := by
  unfold sameTwo at h
  split at h
  · rename_i t' u hl
    split at h
    · rename_i e
      have e := beq_iff.1 e
      subst e
      simp only [Option.some.injEq] at h
      subst h
      apply Array.ext'
      exact hl
    · cases h
  · cases h

theorem cAppend_ok {b : Nat} {cl : Call} {as ax : Operand} (h : RelX C Γ σ val loc S F a.tmps w) (ht : dst < C.nt) (hdst : o.dst = some dst) (hop : o.op = .call cl) (hcl : cl.callee = .builtin .append) (has : cl.args.toList = [as, ax])
    (hc : cAppend b C.P Γ dst cl.argTypes as ax = some r) (hrun : r.run I σ = some σ') (hK : Cont C (apS Γ r) σ' a K) : o.wp C.P a w K Q := by
  have has' : cl.args = #[as, ax] := by
    apply Array.ext'
    exact has
  unfold cAppend at hc
  split at hc
  · rename_i e d0 m0 hty htk
    obtain ⟨t, hts, hu⟩ := Option.bind_eq_some_iff.1 hty
    have hts := sameTwo_ok hts
    have hex : ∀ {v' w'}, (Builtin.append_ #[t, t] o.type #[evalOp a.tmps as, evalOp a.tmps ax]).run C.P w = .ok v' w' → (execOp a.eval o).run C.P w = .ok (.value v') w' := fun {v' w'} e1 => by
      simp [execOp, hop, resolve, hcl, has', evalOp_eq, invoke, builtin, hts, e1]
    obtain ⟨S1, h1, hg⟩ := take_ok h (vk_mod b) htk
    have hk1 : vk b ≠ vk (b + 1) := fun e => by have := vk_inj e; omega
    -- the end, for all ways
    have fin : ∀ {pre : List MS} {y : PX} {m : Bool} {d : SD} {Γ2 : Nat → D} {val2 : Nat → Value} {S2 : Nat → Set} {v2 : Value} {qs : List PV} {T' : Set} {news : List Value} {Ts : Nat → Set},
        RelX C Γ2 (preRun (m0 :: pre) σ) val2 loc S2 F a.tmps w → (m0 :: pre).foldl apm Γ = Γ2 → Γ2 (vk b) = .v d0 → val2 (vk b) = evalOp a.tmps as → (d0 = .nl ∨ d0 = .own e m) → y.eval (preRun (m0 :: pre) σ) [] = .list qs → evalOp a.tmps ax = v2 →
        Gives C.P w F (el C.P m e) v2 qs T' news Ts → (∀ b', T' b' → S2 (vk (b + 1)) b') → C.P.cellsOf e = (el C.P m e).sz → C.P.cellsOf e ≠ 0 → C.P.bytesOf e ≠ 0 → hasDead (el C.P m e) = false → (∃ i z, C.P.info? e = some i ∧ i.zero = some z ∧ z.cells.size = C.P.cellsOf e) → (d = .own e m ∨ (d = .nl ∧ d0 = .nl ∧ v2 = .slice none 0 0)) →
        apFin b C.P e dst m0 d pre y = r → o.wp C.P a w K Q := by
      intro pre y m d Γ2 val2 S2 v2 qs T' news Ts h2 hΓ2 hgb hvb hd0 hy hx hgv hT' hcell hnz hnb hdead ⟨i, z, hi, hz, hzs⟩ hd hr
      subst hr
      obtain ⟨hchk, rfl⟩ := sr_run hrun
      have hok := h2.ok (vk b)
      rw [hgb] at hok
      obtain ⟨cs, hf, hR⟩ := hok
      rw [hvb] at hf
      have hcs := hf.single (by rcases hd0 with rfl | rfl <;> rfl)
      subst hcs
      obtain ⟨A, n, cap, ps, e1, e2, e3⟩ := R.ofSlice hR (by rcases hd0 with rfl | rfl; exact .inr (.inr rfl); exact .inr (.inl ⟨_, _, rfl⟩))
      simp only [List.all_cons, List.all_nil, Bool.and_true, PX.eval, e2, hy, PV.toList, PV.toBool, decide_eq_true_eq] at hchk
      rw [e2] at hR
      have hby : C.P.bytesOf e = i.bytes := by simp [Program.bytesOf, hi]
      have hci : C.P.cellsOf e = i.size := by simp [Program.cellsOf, hi]
      have hfit : (ps.length + qs.length) * i.bytes ≤ 140737488355328 := by
        refine Nat.le_trans (Nat.mul_le_mul_right _ hchk) ?_
        unfold most
        rw [hby]
        exact Nat.div_mul_le_self _ _
      obtain ⟨v', w', T'', r1, r2, r3, r4, r5, r6, r7, r8⟩ := run_append (P := C.P) (w := w) (ty := o.type) (m := m) hu hi hz (by rw [← hci, hcell]) (by rw [hzs, hci]) (by omega) (by omega) hd0 hR hgv (hgv.one hdead (by omega)) hfit (h2.sz (vk b)) (fun b' hb' => h2.sz _ b' (hT' b' hb')) h2.fz
        (fun b' hb' hb'' => hk1 (h2.dj _ _ b' hb' (hT' b' hb''))) (h2.sF (vk b)) (fun b' hb' hf => h2.sF _ b' (hT' b' hb') hf)
      have hd2 : R C.P w' F d [v'] (.list (ps ++ qs)) T'' := by
        rcases hd with rfl | ⟨rfl, rfl, hv2⟩
        · exact r2
        · have hq : qs = [] := by
            rcases hgv.val with ⟨_, _, h⟩ | ⟨ad, _, h, _⟩
            · exact h
            · rw [hv2] at h; simp at h
          generalize hvv : evalOp a.tmps as = vv at hR
          have hp : ps = [] := by cases hR; rfl
          subst hq
          subst hp
          cases hR
          rw [hv2, hvv] at r1
          have : v' = .slice none 0 0 := by
            simp [Builtin.append_, run_underlying hu, sizeOf, typeInfo, hi, Builtin.lenOf, Builtin.firstCells] at r1
            exact r1.1.symm
          subst this
          exact .nl _
      rw [← hx] at r1
      refine wp_val hdst (hex r1) (hK _ _ ?_ rfl)
      show Rel C (ap ((m0 :: pre).foldl apm Γ) ((tk dst, D.v d) :: noneOf [vk b, vk (b + 1)]) [tk dst] []) (setAll (preRun (m0 :: pre) σ) [] [(tk dst, .app (.k (vk b)) y)]) _ _
      rw [setAll_one, hΓ2]
      refine ⟨_, _, _, _, h2.make (w' := w') ht (ks := [vk b, vk (b + 1)]) (by simp [vk_mod]) (T := T'') (fun b' hb' => ?_) (fun b' hb' hs => r8 b' hb' (hs (vk b) (by simp))) r4 r5 r6 r7 ⟨_, .inr ⟨by rcases hd with rfl | ⟨rfl, _⟩ <;> rfl, rfl⟩, ?_⟩⟩
      · rcases r3 b' hb' with (hb' | hb') | hb'
        · exact .inl ⟨vk b, by simp, hb'⟩
        · exact .inl ⟨vk (b + 1), by simp, hT' b' hb'⟩
        · exact .inr hb'
      · simp only [PX.eval, e2, hy, PV.toList]
        exact hd2
    have good : ∀ {m : Bool}, apGood C.P e m = true → C.P.cellsOf e = (el C.P m e).sz ∧ C.P.cellsOf e ≠ 0 ∧ C.P.bytesOf e ≠ 0 ∧ hasDead (el C.P m e) = false ∧ ∃ i z, C.P.info? e = some i ∧ i.zero = some z ∧ z.cells.size = C.P.cellsOf e := by
      intro m hg
      unfold apGood at hg
      simp only [Bool.and_eq_true, Bool.not_eq_true', beq_iff, beq_false] at hg
      obtain ⟨⟨⟨⟨g1, g2⟩, g3⟩, g4⟩, g5⟩ := hg
      refine ⟨g1, g2, g3, g4, ?_⟩
      split at g5
      · rename_i z hz
        obtain ⟨i, hi, hz⟩ := Option.bind_eq_some_iff.1 hz
        exact ⟨i, z, hi, hz, beq_iff.1 g5⟩
      · cases g5
    have own0 : ∀ {m : Bool}, apOwn0 d0 e m = true → d0 = .nl ∨ d0 = .own e m := by
      intro m hg
      unfold apOwn0 at hg
      cases d0 <;> simp only [Bool.false_eq_true] at hg
      · exact .inl rfl
      · simp only [Bool.and_eq_true, beq_iff, beq_iff_eq] at hg
        obtain ⟨rfl, rfl⟩ := hg
        exact .inr rfl
    have hb1 : updF val (vk b) (evalOp a.tmps as) (vk b) = evalOp a.tmps as := updF_same _ _ _
    split at hc
    · rename_i e1 m m1 hmv
      split at hc
      · rename_i hcond
        simp only [Bool.and_eq_true, beq_iff, beq_iff_eq] at hcond
        obtain ⟨⟨⟨rfl, ho⟩, hgd⟩, hkeep⟩ := hcond
        obtain ⟨q1, q2, q3, q4, q5⟩ := good hgd
        have hmv' : take (apm Γ m0) ax (vk (b + 1)) = some (.own e1 m, m1) := by
          unfold apMv at hmv
          split at hmv
          · split at hmv
            · exact hmv
            · cases hmv
          · cases hmv
        obtain ⟨S2, h2, hg2⟩ := take_ok h1 (vk_mod (b + 1)) hmv'
        have hok := h2.ok (vk (b + 1))
        rw [hg2] at hok
        obtain ⟨cs, hf, hR⟩ := hok
        rw [updF_same] at hf
        have hcs := hf.single rfl
        subst hcs
        obtain ⟨A, n, cap, qs, e1', e2, e3⟩ := R.ofSlice hR (.inr (.inl ⟨_, _, rfl⟩))
        rw [e2] at hR
        obtain ⟨news, Ts, hgv⟩ := R.src hR
        exact fin (pre := [m1]) (y := .k (vk (b + 1))) h2 rfl hkeep (by rw [updF_ne _ _ hk1]; exact hb1) (own0 ho) e2 rfl hgv (fun b' hb' => hb') q1 q2 q3 q4 q5 (.inl rfl) (by simpa using hc)
      · cases hc
    · cases hc
    · split at hc
      · rename_i e1 y hl
        split at hc
        · rename_i hcond
          simp only [Bool.and_eq_true, beq_iff] at hcond
          obtain ⟨⟨⟨rfl, ho⟩, hgd⟩, hflat⟩ := hcond
          generalize apM d0 = m at ho hgd hflat hc
          obtain ⟨q1, q2, q3, q4, q5⟩ := good hgd
          obtain ⟨cs, hf, hR⟩ := lend_ok h1 hl []
          have hcs := hf.single rfl
          subst hcs
          obtain ⟨A, n, cap, qs, e1', e2, e3⟩ := R.ofSlice hR (.inl ⟨_, rfl⟩)
          rw [e2] at hR
          have hsd : sdOf C.P e1 = el C.P m e1 := by
            have h0 : (el C.P m e1).ro = sdOf C.P e1 := sdT_ro C.P m 8 e1
            rw [← h0]
            refine ro_plain ?_
            simp only [Bool.or_eq_true, Bool.and_eq_true] at hflat
            rcases hflat with hflat | hflat
            · exact flatS_plain hflat
            · exact hflat.1
          obtain ⟨news, hgv⟩ := R.srcBorG (F' := F) hR (fun cs p hp => by
            simp only [Bool.or_eq_true, Bool.and_eq_true] at hflat
            rcases hflat with hflat | hflat
            · exact hp.ofFlat (by rw [hsd]; exact hflat)
            · rw [List.isEmpty_iff.1 hflat.2] at hp
              exact hp.imp (fun b hb => hb.elim id fun hb => by simp [lentOf] at hb) (fun _ hb => hb) (fun _ _ => rfl)) (by rw [hsd, ← q1]; omega)
          rw [hsd] at hgv
          exact fin (pre := []) h1 rfl hg hb1 (own0 ho) e2 rfl hgv (fun b' hb' => hb'.elim) q1 q2 q3 q4 q5 (.inl rfl) (by simpa using hc)
        · cases hc
      · rename_i y hl
        obtain ⟨cs, hf, hR⟩ := lend_ok h1 hl []
        have hcs := hf.single rfl
        subst hcs
        have hnil : evalOp a.tmps ax = .slice none 0 0 := by
          generalize y.eval (setAll σ [] m0.sets) [] = py at hR
          generalize evalOp a.tmps ax = vx at hR
          cases hR; rfl
        have hgv : ∀ E : SD, Gives C.P w F E (.slice none 0 0) [] Set.none [] (fun _ => Set.none) := fun E => ⟨by simp, .inl ⟨0, rfl, rfl⟩, fun j q hq => by simp at hq, fun j b hb => hb, fun i j b hb => hb.elim⟩
        split at hc
        · rename_i hcond
          simp only [Bool.and_eq_true] at hcond
          obtain ⟨ho, hgd⟩ := hcond
          generalize hm : apM d0 = m at ho hgd
          obtain ⟨q1, q2, q3, q4, q5⟩ := good hgd
          exact fin (pre := []) (y := .lnil) h1 rfl hg hb1 (own0 ho) rfl hnil (hgv _) (fun b' hb' => hb'.elim) q1 q2 q3 q4 q5 (by
            rcases own0 ho with h | h
            · exact .inr ⟨h, h, rfl⟩
            · exact .inl h) (by simpa using hc)
        · cases hc
      · cases hc
  · cases hc

theorem R.ofInt {k : IntKind} (h : R P w F (.int k) cs p T) : ∃ n, cs = [Value.int k n] ∧ p = .int n := by
  cases h
  exact ⟨_, rfl, rfl⟩
theorem elemAt_one (l : List Value) (j : Nat) {x : Value} (h : l[j]? = some x) : elemAt l 1 j = [x] := by
  unfold elemAt
  rw [Nat.mul_one]
  obtain ⟨hj, e⟩ := List.getElem?_eq_some_iff.1 h
  rw [List.drop_eq_getElem_cons hj, e]
  rfl
/-- Cells of numbers, laid over others from a place on. -/
theorem cAppendS_ok {b : Nat} {cl : Call} {as ax : Operand} (h : RelX C Γ σ val loc S F a.tmps w) (ht : dst < C.nt) (hdst : o.dst = some dst) (hop : o.op = .call cl) (hcl : cl.callee = .builtin .append) (has : cl.args.toList = [as, ax])
    (hc : cAppendS b C.P Γ dst cl.argTypes as ax = some r) (hrun : r.run I σ = some σ') (hK : Cont C (apS Γ r) σ' a K) : o.wp C.P a w K Q := by
  have has' : cl.args = #[as, ax] := by
    apply Array.ext'
    exact has
  unfold cAppendS at hc
  split at hc
  · rename_i t u hts
    have hts : cl.argTypes = #[t, u] := by
      apply Array.ext'
      exact hts
    split at hc
    · rename_i e d0 m0 hut huu htk
      split at hc
      · rename_i y hpl
        split at hc
        · rename_i hcond
          simp only [Bool.and_eq_true, decide_eq_true_eq] at hcond
          obtain ⟨hgd, hel⟩ := hcond
          have hex : ∀ {v' w'}, (Builtin.append_ #[t, u] o.type #[evalOp a.tmps as, evalOp a.tmps ax]).run C.P w = .ok v' w' → (execOp a.eval o).run C.P w = .ok (.value v') w' := fun {v' w'} e1 => by
            simp [execOp, hop, resolve, hcl, has', evalOp_eq, invoke, builtin, hts, e1]
          obtain ⟨S1, h1, hg⟩ := take_ok h (vk_mod b) htk
          obtain ⟨_, cx⟩ := plainOf_ok h1 hpl []
          obtain ⟨s, ex, ey⟩ := R.eqStr cx
          have fin : ∀ {d : SD}, ((d0 = .sb e ∧ d = .sb e) ∨ ((d0 = .nl ∨ d0 = .own e false) ∧ d = .own e false)) → apFin b C.P e dst m0 d [] (.s2b y) = r → o.wp C.P a w K Q := by
            intro d hd hr
            subst hr
            obtain ⟨hchk, rfl⟩ := sr_run hrun
            have hok := h1.ok (vk b)
            rw [hg] at hok
            obtain ⟨cs, hf, hR⟩ := hok
            rw [updF_same] at hf
            have hcs := hf.single (by rcases hd with ⟨rfl, _⟩ | ⟨rfl | rfl, _⟩ <;> rfl)
            subst hcs
            obtain ⟨ps, e2⟩ : ∃ ps, (setAll σ [] m0.sets) (vk b) = .list ps := by
              generalize hp : (setAll σ [] m0.sets) (vk b) = p at hR
              generalize evalOp a.tmps as = vv at hR
              rcases hd with ⟨rfl, _⟩ | ⟨rfl | rfl, _⟩ <;> cases hR <;> exact ⟨_, rfl⟩
            rw [e2] at hR
            have e2' : preRun [m0] σ (vk b) = .list ps := e2
            have ey' : y.eval (preRun [m0] σ) [] = .str s := ey
            simp only [List.all_cons, List.all_nil, Bool.and_true, PX.eval, e2', ey', PV.toList, PV.toStr, PV.toBool, decide_eq_true_eq, List.length_map, Array.length_toList] at hchk
            unfold apGood at hgd
            simp only [Bool.and_eq_true, Bool.not_eq_true', beq_iff, beq_false] at hgd
            obtain ⟨⟨⟨⟨g1, g2⟩, g3⟩, g4⟩, g5⟩ := hgd
            obtain ⟨i, z, hi, hz, hzs⟩ : ∃ i z, C.P.info? e = some i ∧ i.zero = some z ∧ z.cells.size = C.P.cellsOf e := by
              split at g5
              · rename_i z hz
                obtain ⟨i, hi, hz⟩ := Option.bind_eq_some_iff.1 hz
                exact ⟨i, z, hi, hz, beq_iff.1 g5⟩
              · cases g5
            have hby : C.P.bytesOf e = i.bytes := by simp [Program.bytesOf, hi]
            have hci : C.P.cellsOf e = i.size := by simp [Program.cellsOf, hi]
            have hs1 : (el C.P false e).sz = 1 := by rw [hel]; rfl
            have hds : s.data.size = s.size := rfl
            have hfit : (ps.length + s.size) * i.bytes ≤ 140737488355328 := by
              refine Nat.le_trans (Nat.mul_le_mul_right _ (by rw [← hds]; exact hchk)) ?_
              unfold most
              rw [hby]
              exact Nat.div_mul_le_self _ _
            obtain ⟨v', w', T'', r1, r2, r3, r4, r5, r6, r7, r8⟩ := run_append_str (P := C.P) (w := w) (ty := o.type) hut huu hi hz (by rw [← hci, g1, hs1]) (by rw [hzs, g1, hs1]) (by omega) hel hd hR hfit (h1.sz (vk b))
            rw [← ex] at r1
            refine wp_val hdst (hex r1) (hK _ _ ?_ rfl)
            show Rel C (ap ([m0].foldl apm Γ) ((tk dst, D.v d) :: noneOf [vk b, vk (b + 1)]) [tk dst] []) (setAll (preRun [m0] σ) [] [(tk dst, .app (.k (vk b)) (.s2b y))]) _ _
            rw [setAll_one]
            refine ⟨_, _, _, _, h1.make (w' := w') ht (ks := [vk b, vk (b + 1)]) (by simp [vk_mod]) (T := T'') (fun b' hb' => ?_) (fun b' hb' hs => r8 b' hb' (hs (vk b) (by simp))) r4 r5 r6 r7 ⟨_, .inr ⟨by rcases hd with ⟨_, rfl⟩ | ⟨_, rfl⟩ <;> rfl, rfl⟩, ?_⟩⟩
            · rcases r3 b' hb' with hb' | hb'
              · exact .inl ⟨vk b, by simp, hb'⟩
              · exact .inr hb'
            · simp only [PX.eval, e2', ey', PV.toList, PV.toStr]
              exact r2
          split at hc
          · rename_i h0
            simp only [Option.some.injEq] at hc
            exact fin (.inl ⟨h0, rfl⟩) hc
          · split at hc
            · rename_i h0
              simp only [Option.some.injEq] at hc
              refine fin (.inr ⟨?_, rfl⟩) hc
              unfold apOwn0 at h0
              cases d0 <;> simp only [Bool.false_eq_true] at h0
              · exact .inl rfl
              · simp only [Bool.and_eq_true, beq_iff, beq_iff_eq] at h0
                obtain ⟨rfl, rfl⟩ := h0
                exact .inr rfl
            · cases hc
        · cases hc
      · cases hc
    · cases hc
  · cases hc
theorem cS2B_ok {s t : TypeId} {ax : Operand} (h : RelX C Γ σ val loc S F a.tmps w) (ht : dst < C.nt) (hdst : o.dst = some dst) (hop : o.op = .convert s t ax)
    (hc : cS2B C.P Γ dst s t ax = some r) (hrun : r.run I σ = some σ') (hK : Cont C (apS Γ r) σ' a K) : o.wp C.P a w K Q := by
  have hex : ∀ {v : Value} {w'}, (convert s t (evalOp a.tmps ax)).run C.P w = .ok v w' → (execOp a.eval o).run C.P w = .ok (.value v) w' := fun {v w'} e2 => by
    simp [execOp, hop, evalOp_eq, e2]
  unfold cS2B at hc
  split at hc
  · rename_i e hs hd
    split at hc
    · rename_i y hu8 hpl
      split at hc
      · rename_i hel
        have hel := of_decide_eq_true hel
        simp only [Option.some.injEq] at hc
        subst hc
        obtain ⟨hchk, rfl⟩ := sr_run hrun
        obtain ⟨_, cx⟩ := plainOf_ok h hpl []
        obtain ⟨str, ex, ey⟩ := R.eqStr cx
        have ey' : y.eval (preRun (mk1 dst (.v (.sb e)) (.s2b y)).pre σ) [] = .str str := ey
        simp only [List.all_cons, List.all_nil, Bool.and_true, PX.eval, ey', PV.toStr, PV.toInt, PV.toBool, cmpI, leI, decide_eq_true_eq] at hchk
        have hchk : (str.size : Int) ≤ 140737488355328 := hchk
        have r1 := Lib.run_convert_string_bytes (P := C.P) w s t e str hs hd hu8
        have hge := grownCap_ge w str.size 0 e
        have hcm := grownCap_le_maxLen w str.size 0 e (by simp only [maxLen]; omega)
        have hbs : (Lib.bytesCells w e str).size = grownCap w str.size 0 e := by
          unfold Lib.bytesCells
          simp only [Array.size_append, Array.size_map, Array.size_replicate]
          have : str.data.size = str.size := rfl
          omega
        have r2 : R C.P (Lib.bytesWorld w e str) F (.sb e) [.slice (some ⟨w.heap.size, 0, none⟩) str.size (grownCap w str.size 0 e)] (.list (str.data.toList.map fun b => PV.int b.toNat)) (fun b => b = w.heap.size) := by
          refine .sb e w.heap.size str.size (grownCap w str.size 0 e) (Lib.bytesCells w e str) _ _ _ (Lib.bytesWorld_at_new w e str) (.inl (Nat.le_refl _)) hge hcm hbs (by rw [List.length_map, Array.length_toList]; rfl) hel rfl ?_
          have := BIs.app (arr := Lib.bytesCells w e str) (ps := []) (xs := []) (s := str) (tl := (Array.replicate (grownCap w str.size 0 e - str.size) (Value.int .u8 0)).toList) rfl (fun j p hp => by simp at hp) (by simp [Lib.bytesCells])
          rw [List.nil_append] at this
          exact this
        rw [← ex] at r1
        refine wp_val hdst (hex r1) (hK _ _ ?_ rfl)
        show Rel C (ap Γ ((tk dst, D.v (.sb e)) :: noneOf []) [tk dst] []) (setAll σ [] [(tk dst, .s2b y)]) _ _
        rw [setAll_one]
        refine ⟨_, _, _, _, h.make (w' := Lib.bytesWorld w e str) ht (ks := []) (by simp) (T := fun b => b = w.heap.size) (fun b' hb' => .inr ?_) (fun b' hb' hs => Lib.bytesWorld_at_old w e str b' hb') rfl rfl rfl ?_ ⟨_, .inr ⟨rfl, rfl⟩, ?_⟩⟩
        · rw [show b' = w.heap.size from hb', Lib.bytesWorld_size]; omega
        · rw [Lib.bytesWorld_size]; omega
        · have ey'' : y.eval σ [] = .str str := ey
          simp only [PX.eval, ey'', PV.toStr]
          exact r2
      · cases hc
    · cases hc
  · cases hc
theorem R.splice {e : TypeId} {m : Bool} {ki : IntKind} {b n cap lo k : Nat} {arr : Array Value} {ps qs : List PV} {news : List Value} (hel : el P m e = .int ki) (h : R P w F (.own e m) [.slice (some ⟨b, 0, none⟩) n cap] (.list ps) T) (hb : w.heap[b]? = some (.cells arr e (0, 0)))
    (hk : k ≤ qs.length) (hlo : lo + k ≤ ps.length) (hn : ∀ j q, qs[j]? = some q → R P w F (.int ki) (elemAt news 1 j) q T') (hnl : news.length = qs.length)
    (hw' : w'.heap[b]? = some (.cells (arr.toList.take lo ++ news.take k ++ arr.toList.drop (lo + k)).toArray e (0, 0))) :
    R P w' F (.own e m) [.slice (some ⟨b, 0, none⟩) n cap] (.list (spliceL ps lo k qs)) (fun x => x = b) := by
  cases h with
  | own _ _ _ _ _ arr' _ _ Ss h1 h2 h3 h4 h5 h6 h7 h8 h9 h10 h11 =>
    rw [hb] at h1
    simp only [Option.some.injEq, Obj.cells.injEq, and_true] at h1
    subst h1
    rw [hel] at h4 h6 h11
    simp only [SD.sz, Nat.mul_one] at h4 h6 h11
    subst h5
    have hal : arr.toList.length = cap := by simpa using h4
    have htl : (arr.toList.take lo).length = lo := by rw [List.length_take]; omega
    have hkl : (news.take k).length = k := by rw [List.length_take]; omega
    have hpl : (ps.take lo).length = lo := by rw [List.length_take]; omega
    have hql : (qs.take k).length = k := by rw [List.length_take]; omega
    have hsl : (spliceL ps lo k qs).length = ps.length := by
      unfold spliceL
      simp only [List.length_append, hpl, hql, List.length_drop]
      omega
    refine .own e m b _ cap _ _ _ (fun _ => Set.none) hw' h2 h3 ?_ hsl (by rw [hel]; exact Nat.one_pos) rfl (fun j x hx => hx.elim) (fun j x hx => hx.elim) (fun i j x hx => hx.elim) (fun j q hq => ?_)
    · rw [hel]
      simp only [SD.sz, Nat.mul_one, List.size_toArray, List.length_append, htl, hkl, List.length_drop, hal]
      omega
    · rw [hel]
      simp only [SD.sz]
      have hj : j < ps.length := by
        have := (List.getElem?_eq_some_iff.1 hq).1
        omega
      have old : ∀ (i : Nat) (q' : PV), ps[i]? = some q' → ∃ nn, arr.toList[i]? = some (Value.int ki nn) ∧ q' = .int nn := by
        intro i q' hq'
        obtain ⟨nn, e1, e2⟩ := (h11 i q' hq').ofInt
        have hi : i < arr.toList.length := by have := (List.getElem?_eq_some_iff.1 hq').1; omega
        rw [elemAt_one _ _ (List.getElem?_eq_getElem hi)] at e1
        simp only [List.cons.injEq, and_true] at e1
        exact ⟨nn, by rw [List.getElem?_eq_getElem hi, e1], e2⟩
      have new : ∀ (i : Nat) (q' : PV), qs[i]? = some q' → ∃ nn, news[i]? = some (Value.int ki nn) ∧ q' = .int nn := by
        intro i q' hq'
        obtain ⟨nn, e1, e2⟩ := (hn i q' hq').ofInt
        have hi : i < news.length := by have := (List.getElem?_eq_some_iff.1 hq').1; omega
        rw [elemAt_one _ _ (List.getElem?_eq_getElem hi)] at e1
        simp only [List.cons.injEq, and_true] at e1
        exact ⟨nn, by rw [List.getElem?_eq_getElem hi, e1], e2⟩
      have main : ∃ nn, (arr.toList.take lo ++ news.take k ++ arr.toList.drop (lo + k))[j]? = some (Value.int ki nn) ∧ q = .int nn := by
        unfold spliceL at hq
        rcases Nat.lt_or_ge j lo with c1 | c1
        · rw [List.append_assoc, List.getElem?_append_left (by omega), List.getElem?_take] at hq ⊢
          rw [if_pos c1] at hq ⊢
          exact old j q hq
        · rcases Nat.lt_or_ge j (lo + k) with c2 | c2
          · rw [List.append_assoc, List.getElem?_append_right (by omega), List.getElem?_append_left (by omega), List.getElem?_take, if_pos (by omega)] at hq ⊢
            rw [hpl] at hq
            rw [htl]
            exact new (j - lo) q hq
          · rw [List.getElem?_append_right (by simp only [List.length_append]; omega), List.getElem?_drop] at hq ⊢
            simp only [List.length_append, hpl, hql] at hq
            simp only [List.length_append, htl, hkl]
            exact old _ q hq
      obtain ⟨nn, m1, rfl⟩ := main
      rw [List.toList_toArray, elemAt_one _ _ m1]
      exact .int ..

theorem apGood_ok {e : TypeId} {m : Bool} (hg : apGood P e m = true) : P.cellsOf e = (el P m e).sz ∧ P.cellsOf e ≠ 0 ∧ P.bytesOf e ≠ 0 ∧ hasDead (el P m e) = false ∧ ∃ i z, P.info? e = some i ∧ i.zero = some z ∧ z.cells.size = P.cellsOf e := by
  unfold apGood at hg
  simp only [Bool.and_eq_true, Bool.not_eq_true', beq_iff, beq_false] at hg
  obtain ⟨⟨⟨⟨g1, g2⟩, g3⟩, g4⟩, g5⟩ := hg
  refine ⟨g1, g2, g3, g4, ?_⟩
  split at g5
  · rename_i z hz
    obtain ⟨i, hi, hz⟩ := Option.bind_eq_some_iff.1 hz
    exact ⟨i, z, hi, hz, beq_iff.1 g5⟩
  · cases g5
theorem cAppE_ok {cl : Call} {as ax : Operand} (h : RelX C Γ σ val loc S F a.tmps w) (ht : dst < C.nt) (hdst : o.dst = some dst) (hop : o.op = .call cl) (hcl : cl.callee = .builtin .append) (has : cl.args.toList = [as, ax])
    (hc : cAppE C.P Γ dst cl.argTypes as ax = some r) (hrun : r.run I σ = some σ') (hK : Cont C (apS Γ r) σ' a K) : o.wp C.P a w K Q := by
  have has' : cl.args = #[as, ax] := by
    apply Array.ext'
    exact has
  unfold cAppE at hc
  split at hc
  · rename_i e q e1 y hty hl
    obtain ⟨t, hts, hu⟩ := Option.bind_eq_some_iff.1 hty
    have hts := sameTwo_ok hts
    have hex : ∀ {v' w'}, (Builtin.append_ #[t, t] o.type #[evalOp a.tmps (.tmp q), evalOp a.tmps ax]).run C.P w = .ok v' w' → (execOp a.eval o).run C.P w = .ok (.value v') w' := fun {v' w'} e1 => by
      simp [execOp, hop, resolve, hcl, has', evalOp_eq, invoke, builtin, hts, e1]
    split at hc
    · rename_i k π hΓ
      split at hc
      · cases hc
      · rename_i hpo
        split at hc
        · rename_i e2 m hsh
          split at hc
          · rename_i ki hel
            split at hc
            · rename_i hcond
              simp only [Bool.and_eq_true, Bool.not_eq_true', beq_iff, beq_false] at hcond
              obtain ⟨⟨⟨rfl, rfl⟩, hgood⟩, hne⟩ := hcond
              have hne : k ≠ tk dst := hne
              simp only [Option.some.injEq] at hc
              subst hc
              obtain ⟨hchk, rfl⟩ := sr_run hrun
              obtain ⟨hcell, hnz, hnb, hdead, i, z, hi, hz, hzs⟩ := apGood_ok hgood
              have hok := h.ok (tk q)
              rw [hΓ] at hok
              obtain ⟨⟨d, cs, base, x, c, ad, r1, r2, r3⟩, _⟩ := hok
              have hx : x = .own e2 m := by
                have := r2.shape r1
                rw [hsh] at this
                simpa using this.symm
              subst hx
              have hcs := r3.single rfl
              subst hcs
              cases π with
              | mk π post =>
              cases post with
              | none => simp at hpo
              | some φ =>
              have r2' := r2
              generalize hj : (σ (tk q)).toInt.toNat = j at r2
              unfold Sub at r2
              obtain ⟨e3, m3, g, n3, cap3, arr, u1, u2, u3, u4, u5, u6, u7, u8⟩ := r2
              obtain ⟨T0, hR, hT0⟩ := h.rootR r1
              obtain ⟨ps, T3, hps, hpl, hR3, hT3, hg0, hg3, hfit0, hput, wand⟩ := R.atElem hR u1 u2 u3 u5 u6
              simp only [SD.sz] at hR3 hfit0 u7
              rw [← u7] at hR3
              -- what it was
              obtain ⟨as, hq0, hv0⟩ := R.ofOwn hR3
              obtain ⟨A, n, cap, hA, hAn⟩ : ∃ A n cap, val (tk q) = .slice A n cap ∧ ∀ b, A = some ⟨b, 0, none⟩ → T3 b := by
                rcases hv0 with ⟨hv, _⟩ | ⟨b, cap, arr1, hv, _, hb, _⟩
                · exact ⟨none, 0, 0, hv, fun b hb => by cases hb⟩
                · exact ⟨_, _, _, hv, fun b' hb' => by simp only [Option.some.injEq, Addr.mk.injEq, and_true] at hb'; exact hb' ▸ hb⟩
              have hgx : getPX k ⟨π, some φ⟩ (.k (tk q)) = .get (.at (.get (.k k) π) (.k (tk q))) φ := rfl
              have hpx : (getPX k ⟨π, some φ⟩ (.k (tk q))).eval σ [] = .list as := by
                rw [hgx]
                show ((((σ k).get π).toList).getD (σ (tk q)).toInt.toNat .unit).get φ = _
                rw [hps, hj]
                exact hq0
              -- what is put behind it
              obtain ⟨cs', hf', hR'⟩ := lend_ok h hl []
              have hcs' := hf'.single rfl
              subst hcs'
              obtain ⟨A', n', cap', qs, f1, f2, f3⟩ := R.ofSlice hR' (.inl ⟨_, rfl⟩)
              rw [f2] at hR'
              have hro : sdOf C.P e2 = .int ki := by
                have h0 : (el C.P m e2).ro = sdOf C.P e2 := sdT_ro C.P m 8 e2
                rw [← h0, hel]; rfl
              obtain ⟨news, hgv⟩ := R.srcBor (F' := F) hR' (by rw [hro]; rfl) (by rw [hro]; exact Nat.one_pos)
              rw [hro, ← hel] at hgv
              have hci : C.P.cellsOf e2 = i.size := by simp [Program.cellsOf, hi]
              have hby : C.P.bytesOf e2 = i.bytes := by simp [Program.bytesOf, hi]
              have h1 := List.all_eq_true.1 hchk _ (List.mem_singleton.2 rfl)
              have h1 : as.length + qs.length ≤ most C.P e2 := by
                have h2 : ((PX.fit (getPX k ⟨π, some φ⟩ (.k (tk q))) y (most C.P e2)).eval σ []).toBool = true := h1
                simp only [PX.eval, hpx, f2, PV.toList, PV.toBool, decide_eq_true_eq] at h2
                exact h2
              have hfit : (as.length + qs.length) * i.bytes ≤ 140737488355328 := by
                refine Nat.le_trans (Nat.mul_le_mul_right _ h1) ?_
                unfold most
                rw [hby]
                exact Nat.div_mul_le_self _ _
              -- it stands on one block alone
              have hR4 : R C.P w F (.own e2 m) [val (tk q)] (.list as) (fun b => A = some ⟨b, 0, none⟩) := by
                rw [hq0] at hR3
                rw [hA] at hR3 ⊢
                cases hR3 with
                | onil => exact .onil ..
                | own _ _ b _ _ arr1 _ _ Ss f1 f2 f3 f4 f5 f6 f7 f8 f9 f10 f11 =>
                  exact .own e2 m b _ _ arr1 _ _ (fun _ => Set.none) f1 f2 f3 f4 f5 f6 rfl (fun _ _ h => h.elim) (fun _ _ h => h.elim) (fun _ _ _ h => h.elim) fun j p hp => (f11 j p hp).ofFlat (by rw [hel]; rfl)
              have hAS : ∀ b, A = some ⟨b, 0, none⟩ → S k b := fun b hb => (hT0 _ (hT3 _ (hAn b hb))).1
              obtain ⟨v', w', T'', k1, k2, k3, k4, k5, k6, k7, k8⟩ := run_append (P := C.P) (w := w) (ty := o.type) (m := m) hu hi hz (by rw [← hci, hcell]) (by rw [hzs, hci]) (by omega) (by omega) (.inr rfl) hR4 hgv (hgv.one hdead (by omega)) hfit (fun b hb => h.sz k b (hAS b hb)) (fun b hb => hb.elim) h.fz
                (fun b _ hb => hb.elim) (fun b hb hf => h.sF k b (hAS b hb) hf) (fun b hb => hb.elim)
              have hkeep := run_append_keep (P := C.P) (w := w) (ty := o.type) (m := m) hu hi hz (by rw [← hci, hcell]) (by omega) (by omega) hel (hq0 ▸ hR3) hgv (hgv.one hdead (by omega)) hfit k1
              have same : ∀ b, b < w.heap.size → ¬ A = some ⟨b, 0, none⟩ → w'.heap[b]? = w.heap[b]? := k8
              have hgA : ¬ A = some ⟨g, 0, none⟩ := fun e => hg3 (hAn g e)
              have hgz : g < w.heap.size := h.sz k g (hT0 g hg0).1
              have hgw : w'.heap[g]? = w.heap[g]? := same g hgz hgA
              have hself : arr.toList.take (j * (el C.P m3 e3).sz + (el C.P m3 e3).off φ) ++ [val (tk q)] ++ arr.toList.drop (j * (el C.P m3 e3).sz + (el C.P m3 e3).off φ + (SD.own e2 m).sz) = arr.toList := by
                have h0 : ((elemAt arr.toList (el C.P m3 e3).sz j).drop ((el C.P m3 e3).off φ))[0]? = some (val (tk q)) := by
                  have := congrArg (fun l => l[0]?) u7
                  simpa [List.getElem?_take] using this.symm
                rw [List.getElem?_drop, Nat.add_zero] at h0
                have h1 := elemAt_get h0
                rw [← Array.getElem?_toList] at h1
                obtain ⟨h2, h3⟩ := List.getElem?_eq_some_iff.1 h1
                show _ ++ _ ++ arr.toList.drop (_ + 1) = _
                rw [List.append_assoc, List.singleton_append, ← h3, ← List.drop_eq_getElem_cons h2, List.take_append_drop]
              have q4 := wand (w' := w') (c' := [val (tk q)]) (q := .list as) (T3' := T3) (fun b hb => by
                rcases hb with hb | hb
                · exact same b (h.fz b hb) fun e => h.sF k b (hAS b e) hb
                · exact same b (h.sz k b (hT0 b hb.1).1) fun e => hb.2.1 (hAn b e)) (by rw [hself, Array.toArray_toList, hgw]; exact u5) hkeep (fun b hb _ => hb)
              rw [← hq0, hput] at q4
              have hfin : ∀ b', ((T0 b' ∧ ¬T3 b') ∨ T3 b') → S k b' ∧ ∀ l, base = some l → b' ≠ l := fun b' hb' => by
                rcases hb' with hb' | hb'
                · exact hT0 b' hb'.1
                · exact hT0 b' (hT3 b' hb')
              have hlk : base = some (loc k) → w'.heap[loc k]? = w.heap[loc k]? := fun hb => by
                rcases r1 with ⟨_, _, a3⟩ | ⟨ty, arr0, _, a2, _, _, _⟩
                · rw [a3] at hb; cases hb
                · exact same _ (Array.getElem?_eq_some_iff.1 a2).1 fun e => (hT0 _ (hT3 _ (hAn _ e))).2 _ hb rfl
              have hevq : evalOp a.tmps (.tmp q) = val (tk q) := (h.tm q).symm
              refine wp_val hdst (hex (by rw [hevq]; exact k1)) (hK _ _ ?_ rfl)
              show Rel C (Rsc.ap Γ [(tk dst, .ap k ⟨π, some φ⟩), (k, Γ k)] [tk dst] [k]) (setAll σ [] [(tk dst, .acons (.k (tk q)) (.acons (.app (getPX k ⟨π, some φ⟩ (.k (tk q))) y) .anil))]) _ _
              rw [setAll_one]
              have hev : (PX.acons (.k (tk q)) (.acons (.app (getPX k ⟨π, some φ⟩ (.k (tk q))) y) .anil)).eval σ [] = .agg [σ (tk q), .list (as ++ qs)] := by
                simp only [PX.eval, hpx, f2, PV.toList, PV.toAgg]
              rw [hev]
              have lk : ∀ {k' : Nat} {z : D}, look [(tk dst, .ap k ⟨π, some φ⟩), (k, Γ k)] k' = some z → (k' = tk dst ∧ z = .ap k ⟨π, some φ⟩) ∨ (k' ≠ tk dst ∧ k' = k ∧ z = Γ k) := by
                intro k' z hz
                rw [look_pair] at hz
                split at hz
                · rename_i e; exact .inl ⟨e, by simpa using hz.symm⟩
                · rename_i e
                  split at hz
                  · rename_i e2; exact .inr ⟨e, e2, by simpa using hz.symm⟩
                  · cases hz
              have lk1 : look [(tk dst, D.ap k ⟨π, some φ⟩), (k, Γ k)] (tk dst) = some (.ap k ⟨π, some φ⟩) := by rw [look_pair]; simp
              have lk2 : look [(tk dst, D.ap k ⟨π, some φ⟩), (k, Γ k)] k = some (Γ k) := by rw [look_pair, if_neg hne]; simp
              have nek : ∀ {k' : Nat}, look [(tk dst, D.ap k ⟨π, some φ⟩), (k, Γ k)] k' = none → k' ≠ tk dst := by
                intro k' hz e
                rw [e, lk1] at hz
                cases hz
              have hbk : (Γ k).isBox = true → w'.heap[loc k]? = w.heap[loc k]? := fun hbx => by
                rcases r1 with ⟨a1, _, _⟩ | ⟨ty, arr0, a1, _, _, _, a5⟩
                · rw [a1] at hbx; cases hbx
                · exact hlk a5
              have hroot : Root w' (Rsc.ap Γ [(tk dst, .ap k ⟨π, some φ⟩), (k, Γ k)] [tk dst] [k]) (updF val (tk dst) v') loc (updF S (tk dst) (fun b => w.heap.size ≤ b ∧ b < w'.heap.size)) k d cs base := by
                rcases r1 with ⟨a1, a2, a3⟩ | ⟨ty, arr0, a1, a2, a3, a4, a5⟩
                · exact .inl ⟨by rw [ap_at lk2, a1], by rw [updF_ne _ _ hne]; exact a2, a3⟩
                · exact .inr ⟨ty, arr0, by rw [ap_at lk2, a1], by rw [hlk a5]; exact a2, by rw [updF_ne _ _ hne]; exact a3, a4, a5⟩
              refine ⟨updF val (tk dst) v', loc, updF S (tk dst) (fun b => w.heap.size ≤ b ∧ b < w'.heap.size), F, h.app _ _ _ (fun k' hz => ⟨updF_ne _ _ (nek hz), updF_ne _ _ (nek hz), rfl, updF_ne _ _ (nek hz)⟩) (fun k' z hz hm => ?_) (fun k' z hz hm => ?_) (fun k' hk6 => ⟨updF_ne _ _ (fun e => by rw [e] at hk6; unfold tk at hk6; omega), rfl⟩) (by simpa using h.n) (fun i => ?_)
                (fun b hb => hb) (fun b hb => hb) (fun b hb => Nat.lt_of_lt_of_le (h.fz b hb) k7) (fun b hb hs => same b hb fun e => hs k _ lk2 (hAS b e)) k4 k5 k6 k7 (fun k' z b hz hs => ?_) (fun k' z b hz hs => ?_) (fun k1' z k2' z' b hz hz' hs hs' => ?_) (fun k' z b hz hs hf => ?_) (fun k' z hz => ?_)⟩
              · rcases lk hz with ⟨rfl, _⟩ | ⟨e1, rfl, _⟩
                · simp [mem_cons] at hm
                · exact ⟨updF_ne _ _ e1, rfl⟩
              · rw [mem_iff, List.mem_singleton] at hm
                subst hm
                rw [lk2] at hz
                simp only [Option.some.injEq] at hz
                exact ⟨hz.symm, updF_ne _ _ hne, rfl, fun hb hs => ⟨by rw [updF_ne _ _ hne]; exact hs, hbk hb⟩⟩
              · rw [put_getD _ (by rw [h.n]; exact ht)]
                by_cases e : i = dst
                · subst e; rw [updF_same]; simp
                · rw [updF_ne _ _ (fun e2 => e (tk_inj e2)), if_neg e]; exact h.tm i
              · rcases lk hz with ⟨rfl, _⟩ | ⟨e1, rfl, _⟩
                · rw [updF_same] at hs; exact .inr hs.1
                · rw [updF_ne _ _ e1] at hs; exact .inl ⟨k', _, lk2, hs⟩
              · rcases lk hz with ⟨rfl, _⟩ | ⟨e1, rfl, _⟩
                · rw [updF_same] at hs; exact hs.2
                · rw [updF_ne _ _ e1] at hs; exact Nat.lt_of_lt_of_le (h.sz _ b hs) k7
              · rcases lk hz with ⟨rfl, _⟩ | ⟨e1, rfl, _⟩ <;> rcases lk hz' with ⟨rfl, _⟩ | ⟨e1', rfl, _⟩
                · rfl
                · rw [updF_same] at hs
                  rw [updF_ne _ _ e1'] at hs'
                  have := h.sz _ b hs'
                  omega
                · rw [updF_same] at hs'
                  rw [updF_ne _ _ e1] at hs
                  have := h.sz _ b hs
                  omega
                · rfl
              · rcases lk hz with ⟨rfl, _⟩ | ⟨e1, rfl, _⟩
                · rw [updF_same] at hs
                  have := h.fz b hf
                  omega
                · rw [updF_ne _ _ e1] at hs; exact h.sF _ b hs hf
              · rcases lk hz with ⟨rfl, rfl⟩ | ⟨e1, rfl, rfl⟩
                · refine ⟨d, cs, base, e2, m, A, n, cap, (g, j * (el C.P m3 e3).sz + (el C.P m3 e3).off φ), ki, σ (tk q), as ++ qs, hroot, ?_, hel, updF_same _ _ _, fun b hb => by rw [updF_ne _ _ hne]; exact hAS b hb, ?_⟩
                  rotate_left
                  · rw [updF_same]
                    refine k2.wide fun b hb => ?_
                    rcases k3 b hb with (hb | hb) | hb
                    · exact .inr hb
                    · exact hb.elim
                    · exact .inl (by rw [updF_same]; exact hb)
                  · rw [hj]
                    exact ⟨e3, m3, g, n3, cap3, arr, u1, u2, u3, by rw [updF_ne _ _ hne]; exact u4, by rw [hgw]; exact u5, u6, by rw [← hA]; exact u7, rfl⟩
                · rcases r1 with ⟨a1, a2, a3⟩ | ⟨ty, arr0, a1, a2, a3, a4, a5⟩
                  · rw [a1]
                    exact ⟨cs, by rw [updF_ne _ _ hne]; exact a2, by rw [updF_ne _ _ hne]; exact q4.wide (fun b' hb' => by rw [updF_ne _ _ hne]; exact (hfin b' hb').1)⟩
                  · rw [a1]
                    refine ⟨arr0, _, by rw [hlk a5]; exact a2, by rw [updF_ne _ _ hne]; exact a3, fun b' hb' => ⟨by rw [updF_ne _ _ hne]; exact (hfin b' hb').1, (hfin b' hb').2 _ a5⟩, by rw [updF_ne _ _ hne, ← a4]; exact q4⟩
            · cases hc
          · cases hc
        · cases hc
    · cases hc
  · cases hc
theorem cCopy_ok {b : Nat} {cl : Call} {ad ax : Operand} (h : RelX C Γ σ val loc S F a.tmps w) (ht : dst < C.nt) (hdst : o.dst = some dst) (hop : o.op = .call cl) (hcl : cl.callee = .builtin .copy) (has : cl.args.toList = [ad, ax])
    (hc : cCopy b C.P Γ dst cl.argTypes ad ax = some r) (hrun : r.run I σ = some σ') (hK : Cont C (apS Γ r) σ' a K) : o.wp C.P a w K Q := by
  have has' : cl.args = #[ad, ax] := by
    apply Array.ext'
    exact has
  unfold cCopy at hc
  split at hc
  · rename_i e p e' y hty hl
    obtain ⟨t, hts, hu⟩ := Option.bind_eq_some_iff.1 hty
    have hts := sameTwo_ok hts
    have hex : ∀ {v' w'}, (Builtin.copy_ #[t, t] o.type #[evalOp a.tmps (.tmp p), evalOp a.tmps ax]).run C.P w = .ok v' w' → (execOp a.eval o).run C.P w = .ok (.value v') w' := fun {v' w'} e1 => by
      simp [execOp, hop, resolve, hcl, has', evalOp_eq, invoke, builtin, hts, e1]
    split at hc
    · rename_i k π hΓ
      split at hc
      · rename_i e2 m hsh
        split at hc
        · rename_i ki hel
          split at hc
          · rename_i hcond
            simp only [Bool.and_eq_true, Bool.not_eq_true', beq_iff, beq_false] at hcond
            obtain ⟨⟨⟨rfl, rfl⟩, hne⟩, hc1⟩ := hcond
            simp only [Option.some.injEq] at hc
            subst hc
            obtain ⟨_, rfl⟩ := sr_run (chk := []) hrun
            have hok := h.ok (tk p)
            rw [hΓ] at hok
            obtain ⟨d, cs, base, e3, y3, A, n, cap, lo, hi, r1, u1, u2, u3, l0, l1, l2, u4⟩ := hok
            have hsd : d.get π = some (.own e m) := by
              unfold shapeAt at hsh
              rw [r1.sd] at hsh
              exact hsh
            rw [u1] at hsd
            simp only [Option.some.injEq, SD.own.injEq] at hsd
            obtain ⟨rfl, rfl⟩ := hsd
            have hev : evalOp a.tmps (.tmp p) = .slice (if cap = lo.toNat then A else A.map (·.add (lo.toNat * (el C.P y3 e3).sz))) (hi.toNat - lo.toNat) (cap - lo.toNat) := by
              rw [← u4]; exact (h.tm p).symm
            rw [hel] at hev
            simp only [SD.sz, Nat.mul_one] at hev
            -- what is read
            obtain ⟨cs', hf', hR'⟩ := lend_ok h hl []
            have hcs' := hf'.single rfl
            subst hcs'
            obtain ⟨A', n', cap', qs, f1, f2, f3⟩ := R.ofSlice hR' (.inl ⟨_, rfl⟩)
            rw [f2] at hR'
            have hro : sdOf C.P e3 = .int ki := by
              have h0 : (el C.P y3 e3).ro = sdOf C.P e3 := sdT_ro C.P y3 8 e3
              rw [← h0, hel]; rfl
            obtain ⟨news, hgv⟩ := R.srcBor (F' := F) hR' (by rw [hro]; rfl) (by rw [hro]; exact Nat.one_pos)
            rw [hro] at hgv
            have hnl : news.length = qs.length := by have := hgv.len; simpa [SD.sz] using this
            -- what is written
            obtain ⟨T0, hR0, hT0⟩ := h.rootR r1
            obtain ⟨pre, c1, post, T1, ecs, hlen, hR1, hT1, wand⟩ := R.focus π hR0 u1
            have hcc : c1 = [.slice A n cap] := by rw [← u2, ecs, take_drop_mid (m := 1) hlen hR1.len]
            subst hcc
            have hsz1 : (C.P.info? e3).map (·.size) = some 1 := by
              obtain ⟨i, hi⟩ := info_of_cells (P := C.P) (e := e3) (by omega)
              rw [hi]
              have hc2 := hc1
              simp [Program.cellsOf, hi] at hc2
              simp [hc2]
            have hlE : ((σ (tk p)).get [0]) = .int lo := by rw [u3]; rfl
            have hhE : ((σ (tk p)).get [1]) = .int hi := by rw [u3]; rfl
            obtain ⟨ps, hps, hv⟩ := R.ofOwn hR1
            have e9 : setAll σ [] [(k, .put (.k k) π (.splice (.get (.k k) π) (.get (.k (tk p)) [0]) (.get (.k (tk p)) [1]) y))] = updF σ k ((σ k).put π (.list (spliceL ps lo.toNat (min qs.length (hi.toNat - lo.toNat)) qs))) := by
              rw [setAll_one]
              congr 1
              simp only [PX.eval, hps, f2, hlE, hhE, PV.toList, PV.toInt]
            -- the world behind it, and the row
            have key : ∃ w' v' T2, (Builtin.copy_ #[t, t] o.type #[evalOp a.tmps (.tmp p), evalOp a.tmps ax]).run C.P w = .ok v' w' ∧ w'.os = w.os ∧ w'.tape = w.tape ∧ w'.output = w.output ∧ w'.heap.size = w.heap.size ∧ (∀ x, ¬ T1 x → w'.heap[x]? = w.heap[x]?) ∧ (∀ x, T2 x → T1 x) ∧
                R C.P w' F (.own e3 y3) [.slice A n cap] (.list (spliceL ps lo.toNat (min qs.length (hi.toNat - lo.toNat)) qs)) T2 := by
              rcases hv with ⟨hv, rfl⟩ | ⟨b0, cap0, arr0, hv, v1, v2, v3, v4, v5, v6⟩
              · simp only [Value.slice.injEq] at hv
                obtain ⟨rfl, rfl, rfl⟩ := hv
                have z1 : hi.toNat - lo.toNat = 0 := by omega
                refine ⟨w, goInt 0, Set.none, ?_, rfl, rfl, rfl, rfl, fun _ _ => rfl, fun x hx => hx.elim, ?_⟩
                · rw [hev, f1, z1]
                  exact run_copy_none (P := C.P) w t t o.type e3 _ _ _ _ _ _ hu hsz1 (Nat.min_zero _)
                · rw [z1]
                  have : spliceL [] lo.toNat (min qs.length 0) qs = [] := by simp [spliceL]
                  rw [this]
                  exact .onil ..
              · simp only [Value.slice.injEq] at hv
                obtain ⟨rfl, hnn, rfl⟩ := hv
                subst hnn
                rw [hps] at hR1
                have hk1 : min qs.length (hi.toNat - lo.toNat) ≤ qs.length := Nat.min_le_left _ _
                have hk2 : min qs.length (hi.toNat - lo.toNat) ≤ hi.toNat - lo.toNat := Nat.min_le_right _ _
                generalize hkk : min qs.length (hi.toNat - lo.toNat) = kk at hk1 hk2
                have hac : arr0.size = cap := by rw [v5, hel]; simp [SD.sz]
                have hrow := fun (w' : World) hw' => R.splice (P := C.P) (w := w) (w' := w') (F := F) (T' := Set.none) (lo := lo.toNat) (k := kk) (qs := qs) (news := news) hel hR1 v1 hk1 (by omega) (fun j q hq => hgv.el j q hq) hnl hw'
                by_cases hk0 : kk = 0
                · refine ⟨w, goInt 0, fun x => x = b0, ?_, rfl, rfl, rfl, rfl, fun _ _ => rfl, fun x hx => by rw [hx]; exact v2, hrow w ?_⟩
                  · rw [hev, f1]
                    refine run_copy_none (P := C.P) w t t o.type e3 _ _ _ _ _ _ hu hsz1 ?_
                    rw [← f3]
                    show min qs.length (hi.toNat - lo.toNat) = 0
                    omega
                  · rw [v1, hk0]
                    simp
                · have hcl : ¬ cap = lo.toNat := by omega
                  rw [if_neg hcl] at hev
                  have hsrc : ∃ ad', A' = some ad' ∧ ∀ j u, news[j]? = some u → w.cell? (ad'.add j) = some u := by
                    rcases hgv.val with ⟨c', g1, g2⟩ | ⟨ad', c', g1, g2⟩
                    · subst g2; simp at hkk; omega
                    · rw [f1] at g1
                      simp only [Value.slice.injEq] at g1
                      exact ⟨ad', g1.1, g2⟩
                  obtain ⟨ad', rfl, hcell⟩ := hsrc
                  have hadd : (⟨b0, 0, none⟩ : Addr).add lo.toNat = ⟨b0, lo.toNat, none⟩ := add_zero_off _ _
                  have hone : ∀ v ∈ news.take kk, v.oneCell' = true := by
                    intro v hv
                    obtain ⟨j, hj, rfl⟩ := List.getElem_of_mem (List.mem_of_mem_take hv)
                    have hq := hgv.el j (qs[j]'(by omega)) (List.getElem?_eq_getElem (by omega))
                    obtain ⟨nn, e1, _⟩ := hq.ofInt
                    simp only [SD.sz] at e1
                    rw [elemAt_one _ _ (List.getElem?_eq_getElem hj)] at e1
                    simp only [List.cons.injEq, and_true] at e1
                    rw [e1]; rfl
                  have hr := run_copy_row (P := C.P) w t t o.type e3 b0 lo.toNat (hi.toNat - lo.toNat) (cap - lo.toNat) ad' n' cap' arr0 e3 (news.take kk) hu hsz1 v1 (by
                    rw [List.length_take, hnl, ← f3]
                    show min kk qs.length = min qs.length (hi.toNat - lo.toNat)
                    omega) (fun j v hj => hcell j v (by rw [List.getElem?_take] at hj; split at hj; exact hj; cases hj)) (by rw [List.length_take, hac]; omega) hone
                  have hlk : (news.take kk).length = kk := by rw [List.length_take]; omega
                  rw [hlk] at hr
                  refine ⟨w.setRow b0 (arr0.toList.take lo.toNat ++ news.take kk ++ arr0.toList.drop (lo.toNat + kk)).toArray, goInt kk, fun x => x = b0, by rw [hev, f1]; simp only [Option.map_some, hadd]; exact hr, rfl, rfl, rfl, by simp [World.setRow], fun x hx => setRow_other w b0 x _ (fun e => hx (e ▸ v2)), fun x hx => by rw [hx]; exact v2, hrow _ (setRow_heap w b0 arr0 _ e3 _ v1)⟩
            obtain ⟨w', v', T2, hrun', x1, x2, x3, x4, x5, x6, hR2⟩ := key
            have q4 := wand (w' := w') (F' := F) (fun b hb => hb) (fun b' hb' => x5 b' fun ht1 => by
              rcases hb' with hb' | hb'
              · exact h.sF k b' (hT0 _ (hT1 _ ht1)).1 hb'
              · exact hb'.2 ht1) hR2 (fun b' hb' _ => x6 b' hb')
            rw [SD.put_get π u1, ← ecs] at q4
            have hfin : ∀ b', ((T0 b' ∧ ¬T1 b') ∨ T2 b') → S k b' ∧ ∀ l, base = some l → b' ≠ l := fun b' hb' => by
              rcases hb' with hb' | hb'
              · exact hT0 b' hb'.1
              · exact hT0 b' (hT1 b' (x6 b' hb'))
            have hlk : base = some (loc k) → w'.heap[loc k]? = w.heap[loc k]? := fun hb => x5 _ fun hx => (hT0 _ (hT1 _ hx)).2 _ hb rfl
            refine wp_val hdst (hex hrun') (hK _ _ ?_ rfl)
            show Rel C (Rsc.ap (Rsc.ap Γ [(k, Γ k), (vk b, .none)] [] [k]) [(tk dst, .none)] [tk dst] []) (setAll (setAll σ [] [(k, .put (.k k) π (.splice (.get (.k k) π) (.get (.k (tk p)) [0]) (.get (.k (tk p)) [1]) y))]) [] [(tk dst, PX.unit)]) _ _
            rw [e9, setAll_one]
            have h2 := h.reroot (w' := w') (vk_mod b) hne (g := Γ k) (so := [k]) (q := (σ k).put π (.list (spliceL ps lo.toNat (min qs.length (hi.toNat - lo.toNat)) qs))) (.inr ⟨rfl, rfl, fun hbx _ => ?_⟩) (fun b' _ hs _ => x5 b' fun hx => hs (hT0 _ (hT1 _ hx)).1) x1 x2 x3 x4 ?_
            · exact ⟨_, _, _, _, h2.set1 ht (x := .none) (p := .unit) (v := v') trivial⟩
            · rcases r1 with ⟨a1, _, _⟩ | ⟨ty, arr0, a1, _, _, _, a5⟩
              · rw [a1] at hbx; cases hbx
              · exact hlk a5
            · rcases r1 with ⟨a1, a2, a3⟩ | ⟨ty, arr0, a1, a2, a3, a4, a5⟩
              · rw [a1]
                exact ⟨cs, a2, by rw [updF_same]; exact q4.wide (fun b' hb' => by simp only [if_true]; exact .inl (hfin b' hb').1)⟩
              · rw [a1]
                refine ⟨arr0, _, by rw [hlk a5]; exact a2, by simp only [if_true]; exact .inl a3, fun b' hb' => ⟨by simp only [if_true]; exact .inl (hfin b' hb').1, (hfin b' hb').2 _ a5⟩, by rw [updF_same, ← a4]; exact q4⟩
          · cases hc
        · cases hc
      · cases hc
    · cases hc
  · cases hc

/-! ### Maps -/
theorem mapFind {vb : Bool} {es : List MapEntry} {ps : List PV} (h : MapIs vb es ps) (k : Int) (z : PV) : ∀ i : Nat,
    (Instr.findNow (.int .i64) (.int .i64 k) es i = some none ∧ mgetL z k ps = z ∧ ∀ x, msetL k x ps = ps ++ [.agg [.int k, x]]) ∨
    ∃ (j : Nat) (v : Value) (e : MapEntry), Instr.findNow (.int .i64) (.int .i64 k) es i = some (some (i + j, v)) ∧ MVal vb (mgetL z k ps) v ∧ es[j]? = some e ∧ e.key = .int .i64 k ∧
      ∀ x val, MVal vb x val → MapIs vb (es.modify j fun e => { e with key := .int .i64 k, val := val }) (msetL k x ps) := by
  induction h with
  | nil => exact fun i => .inl ⟨rfl, rfl, fun x => rfl⟩
  | cons h1 h2 h3 ih =>
    rename_i e es k' x' ps
    intro i
    by_cases hk : k' = k
    · subst hk
      refine .inr ⟨0, e.val, e, ?_, ?_, rfl, h1, fun x val hv => ?_⟩
      · simp [Instr.findNow, h1, Instr.sameNow]
      · simpa [mgetL, PV.fld, PV.toAgg, PV.toInt] using h2
      · have : msetL k' x (PV.agg [.int k', x'] :: ps) = .agg [.int k', x] :: ps := by simp [msetL, PV.fld, PV.toAgg, PV.toInt]
        rw [this]
        exact .cons rfl hv h3
    · have hk' : ¬ k = k' := fun e => hk e.symm
      have e1 : ∀ z, mgetL z k (PV.agg [.int k', x'] :: ps) = mgetL z k ps := fun z => by simp [mgetL, PV.fld, PV.toAgg, PV.toInt, hk]
      have e2 : ∀ x, msetL k x (PV.agg [.int k', x'] :: ps) = PV.agg [.int k', x'] :: msetL k x ps := fun x => by simp [msetL, PV.fld, PV.toAgg, PV.toInt, hk]
      have e3 : Instr.findNow (.int .i64) (.int .i64 k) (e :: es) i = Instr.findNow (.int .i64) (.int .i64 k) es (i + 1) := by
        have hb : (k == k') = false := by simpa using hk'
        simp [Instr.findNow, h1, Instr.sameNow, hb]
      rw [e1, e3]
      rcases ih (i + 1) with ⟨g1, g2, g3⟩ | ⟨j, v, e', g1, g2, g3, g4, g5⟩
      · exact .inl ⟨g1, g2, fun x => by rw [e2, g3]; rfl⟩
      · refine .inr ⟨j + 1, v, e', by rw [g1]; congr 3; omega, g2, by simpa using g3, g4, fun x val hv => ?_⟩
        rw [e2]
        exact .cons h1 h2 (g5 x val hv)
theorem mapKind_ok {t : TypeId} {vb : Bool} (h : mapKind P t = some vb) : ∃ kt vt, P.underlying t = some (.map kt vt) ∧ P.underlying kt = some (.int .i64) ∧ ∃ i z, P.info? vt = some i ∧ i.zero = some z ∧ MVal vb ((mapZ vb).eval (fun _ => .unit) []) z := by
  unfold mapKind at h
  split at h
  · rename_i kt vt hu
    split at h
    · rename_i h1 h2 h3
      obtain ⟨i, hi, hz⟩ := Option.bind_eq_some_iff.1 h3
      simp only [Option.some.injEq] at h
      subst h
      exact ⟨kt, vt, hu, h1, i, _, hi, hz, ⟨false, rfl, rfl⟩⟩
    · rename_i h1 h2 h3
      obtain ⟨i, hi, hz⟩ := Option.bind_eq_some_iff.1 h3
      simp only [Option.some.injEq] at h
      subst h
      exact ⟨kt, vt, hu, h1, i, _, hi, hz, ⟨0, rfl, rfl⟩⟩
    · cases h
  · cases h
theorem cMakeMap_ok {t : TypeId} {rsv : Option Operand} (h : RelX C Γ σ val loc S F a.tmps w) (ht : dst < C.nt) (hdst : o.dst = some dst) (hop : o.op = .makeMap t rsv)
    (hc : cMakeMap C.P dst t rsv = some r) (hrun : r.run I σ = some σ') (hK : Cont C (apS Γ r) σ' a K) : o.wp C.P a w K Q := by
  unfold cMakeMap at hc
  split at hc
  · rename_i vb hm
    simp only [Option.some.injEq] at hc
    subst hc
    rw [mk1_run0 hrun] at hK
    have hr : (execOp a.eval o).run C.P w = .ok (.value (.map (some w.heap.size))) (w.alloc (.map #[] 0)) := by
      simp [execOp, hop, Option.map_none, Instr.makeMap, run_newObj]
    refine wp_val hdst hr (hK _ _ ⟨_, _, _, _, h.make (w' := w.alloc (.map #[] 0)) ht (ks := []) (by simp) (T := fun b => b = w.heap.size) (fun b hb => .inr ⟨by omega, by simp; omega⟩) (fun b hb _ => heap_alloc_old w _ b hb) rfl rfl rfl (by simp) ⟨_, .inr ⟨rfl, rfl⟩, ?_⟩⟩ rfl)
    exact .mp vb w.heap.size #[] 0 [] _ (heap_alloc_new w _) .nil rfl
  · cases hc
/-- A map that is seen: its root, its block, its entries. -/
theorem mapOf_ok {m : Operand} {k : Nat} {π : List Nat} {vb : Bool} (h : RelX C Γ σ val loc S F tmps w) (hm : mapOf Γ m = some (k, π, vb)) :
    ∃ (d : SD) (cs : List Value) (base : Option Nat) (T0 : Set) (pre post : List Value) (T1 : Set) (b : Nat) (es : Array MapEntry) (clk : Nat) (ps : List PV), Root w Γ val loc S k d cs base ∧ d.get π = some (.mp vb) ∧ (∀ x, T0 x → S k x ∧ ∀ l, base = some l → x ≠ l) ∧ cs = pre ++ [.map (some b)] ++ post ∧ evalOp tmps m = .map (some b) ∧ w.heap[b]? = some (.map es clk) ∧ MapIs vb es.toList ps ∧ (σ k).get π = .list ps ∧
      T1 b ∧ (∀ x, T1 x → T0 x) ∧
      ∀ {w' : World} {x' : SD} {c1' : List Value} {q : PV} {S1' : Set}, (∀ x, F x ∨ (T0 x ∧ ¬ T1 x) → w'.heap[x]? = w.heap[x]?) → R C.P w' F x' c1' q S1' → (∀ x, S1' x → T0 x → T1 x) →
        R C.P w' F (d.put π x') (pre ++ c1' ++ post) ((σ k).put π q) (fun x => (T0 x ∧ ¬ T1 x) ∨ S1' x) := by
  unfold mapOf at hm
  split at hm
  · rename_i t
    split at hm
    · rename_i o π' hΓ
      split at hm
      · rename_i vb' hsd
        simp only [Option.some.injEq, Prod.mk.injEq] at hm
        obtain ⟨rfl, rfl, rfl⟩ := hm
        have hok := h.ok (tk t)
        rw [hΓ] at hok
        obtain ⟨⟨d, cs, base, x, c, ad, r1, r2, r3⟩, _⟩ := hok
        obtain ⟨u1, u2, _⟩ := r2
        have hx : x = .mp vb' := by
          rw [r1.sd] at hsd
          simp only [Option.bind_some] at hsd
          have : d.get π' = some x := u1
          rw [hsd] at this
          exact (Option.some.inj this).symm
        subst hx
        obtain ⟨T0, hR0, hT0⟩ := h.rootR r1
        obtain ⟨pre, c1, post, T1, ecs, hlen, hR1, hT1, wand⟩ := R.focus π' hR0 u1
        have hcc : c1 = c := by
          have hl := hR1.len
          have : c = (cs.drop (d.off π')).take (SD.mp vb').sz := u2
          rw [this, ecs, take_drop_mid hlen hl]
        subst hcc
        have hev : evalOp tmps (.tmp t) = val (tk t) := (h.tm t).symm
        generalize hp : (σ o).get π' = p at hR1
        cases hR1 with
        | mp _ b es clk ps _ g1 g2 g3 =>
          have hv : val (tk t) = .map (some b) := by
            rcases r3 with ⟨a1, _⟩ | ⟨_, a2⟩
            · cases a1
            · simpa using a2.symm
          exact ⟨d, cs, base, T0, pre, post, T1, b, es, clk, ps, r1, u1, hT0, ecs, by rw [hev, hv], g1, g2, rfl, g3, hT1, fun hw hr hd => wand (fun b hb => hb) hw hr hd⟩
      · cases hm
    · cases hm
  · cases hm
theorem run_findKey_int {kt : TypeId} {es : List MapEntry} {k : Int} {r : Option (Nat × Value)} (hk : P.underlying kt = some (.int .i64)) (hf : Instr.findNow (.int .i64) (.int .i64 k) es 0 = some r) : (Instr.findKey kt (.int .i64 k) es).run P w = .ok r w := by
  unfold Instr.findKey
  rw [Sem.run_bind, run_underlying hk]
  simp only [Result.andThen_ok, hf]
  rfl
theorem run_checkKey_int {kt : TypeId} {e : Bool} {k : Int} (hk : P.underlying kt = some (.int .i64)) : (Instr.checkKey e 10000 kt (.int .i64 k)).run P w = .ok () w := by
  show (Instr.checkKey e (9999 + 1) kt (.int .i64 k)).run P w = _
  unfold Instr.checkKey
  rw [Sem.run_bind, run_underlying hk]
  rfl
theorem MVal.fits {vb : Bool} {x : PV} {v : Value} (h : MVal vb x v) (F' : Set) (w : World) (S' : Set) : ∃ cs, Fits (mapEl vb) v cs ∧ R P w F' (mapEl vb) cs x S' := by
  cases vb with
  | true => obtain ⟨b, rfl, rfl⟩ := h; exact ⟨_, .inr ⟨rfl, rfl⟩, .bool _ _⟩
  | false => obtain ⟨n, rfl, rfl⟩ := h; exact ⟨_, .inr ⟨rfl, rfl⟩, .int _ _ _⟩
theorem MVal.ofFits {vb : Bool} {x : PV} {v : Value} {cs : List Value} {w : World} {F' S' : Set} (hf : Fits (mapEl vb) v cs) (hR : R P w F' (mapEl vb) cs x S') : MVal vb x v := by
  cases vb with
  | true =>
    cases hR with
    | bool b _ =>
      rcases hf with ⟨a1, _⟩ | ⟨_, a2⟩
      · cases a1
      · exact ⟨b, rfl, by simpa using a2.symm⟩
  | false =>
    cases hR with
    | int _ n _ =>
      rcases hf with ⟨a1, _⟩ | ⟨_, a2⟩
      · cases a1
      · exact ⟨n, rfl, by simpa using a2.symm⟩
theorem mapZ_eval (vb : Bool) (σ σ' : Nat → PV) : (mapZ vb).eval σ [] = (mapZ vb).eval σ' [] := by cases vb <;> rfl
theorem cLookup_ok {t : TypeId} {m x : Operand} {ok : Bool} (h : RelX C Γ σ val loc S F a.tmps w) (ht : dst < C.nt) (hdst : o.dst = some dst) (hop : o.op = .lookup t m x ok)
    (hc : cLookup C.P Γ dst t m x ok = some r) (hrun : r.run I σ = some σ') (hK : Cont C (apS Γ r) σ' a K) : o.wp C.P a w K Q := by
  unfold cLookup at hc
  split at hc
  · rename_i vb k π vb' px hm hmo hx
    split at hc
    · rename_i hcond
      simp only [Bool.and_eq_true, beq_iff_eq, Bool.not_eq_true'] at hcond
      obtain ⟨rfl, rfl⟩ := hcond
      simp only [Option.some.injEq] at hc
      subst hc
      rw [mk1_run0 hrun] at hK
      obtain ⟨kt, vt, hu, hkt, i, z, hi, hz, hzv⟩ := mapKind_ok hm
      obtain ⟨n, e1, e2⟩ := intOf_ok h hx []
      obtain ⟨d, cs, base, T0, pre, post, T1, b, es, clk, ps, r1, u1, hT0, ecs, hev, g1, g2, hps, g3, hT1, _⟩ := mapOf_ok h hmo
      have hval : ∃ v, (Instr.lookup t (.map (some b)) (.int .i64 n) false).run C.P w = .ok v w ∧ MVal vb (mgetL ((mapZ vb).eval σ []) n ps) v := by
        rcases mapFind g2 n ((mapZ vb).eval σ []) 0 with ⟨q1, q2, _⟩ | ⟨j, v, e, q1, q2, _⟩
        · refine ⟨z, ?_, by rw [q2, mapZ_eval vb σ (fun _ => .unit)]; exact hzv⟩
          simp [Instr.lookup, run_underlying hu, MapKept.run_getObj_map g1, run_checkKey_int hkt, run_findKey_int hkt q1, zeroValue, typeInfo, hi, hz, Result.andThen]
        · refine ⟨v, ?_, q2⟩
          simp [Instr.lookup, run_underlying hu, MapKept.run_getObj_map g1, run_checkKey_int hkt, run_findKey_int hkt q1, Result.andThen]
      obtain ⟨v, hv1, hv2⟩ := hval
      have hex : (execOp a.eval o).run C.P w = .ok (.value v) w := by
        simp [execOp, hop, evalOp_eq, hev, e1, hv1]
      have ee : (PX.mget (.get (.k k) π) px (mapZ vb)).eval σ [] = mgetL ((mapZ vb).eval σ []) n ps := by
        simp only [PX.eval, e2, hps, PV.toInt, PV.toList]
      refine wp_plain h ht hdst hex ?_ hK
      rw [ee]
      exact hv2.fits _ _ _
    · cases hc
  · cases hc
/-- A map's entry is put. -/
theorem run_mapPut {t kt vt : TypeId} {b : Nat} {es : Array MapEntry} {clk : Nat} {vb : Bool} {ps : List PV} {n : Int} {v : Value} {x : PV} (hu : P.underlying t = some (.map kt vt)) (hkt : P.underlying kt = some (.int .i64)) (hb : w.heap[b]? = some (.map es clk)) (hm : MapIs vb es.toList ps) (hv : MVal vb x v) :
    ∃ (es' : Array MapEntry) (clk' : Nat), (Instr.mapUpdate t (.map (some b)) (.int .i64 n) v).run P w = .ok () { w with heap := w.heap.setIfInBounds b (.map es' clk') } ∧ MapIs vb es'.toList (msetL n x ps) := by
  rcases mapFind hm n .unit 0 with ⟨q1, _, q3⟩ | ⟨j, v0, e, q1, _, q3, q4, q5⟩
  · refine ⟨es.push { key := .int .i64 n, val := v, born := clk }, clk + 1, ?_, ?_⟩
    · simp [Instr.mapUpdate, run_underlying hu, MapKept.run_getObj_map hb, run_checkKey_int hkt, run_findKey_int hkt q1, MapKept.run_setObj_map _ hb, Result.andThen]
    · rw [q3, Array.toList_push]
      have app : ∀ {es : List MapEntry} {ps : List PV}, MapIs vb es ps → MapIs vb (es ++ [{ key := .int .i64 n, val := v, born := clk }]) (ps ++ [.agg [.int n, x]]) := by
        intro es ps h
        induction h with
        | nil => exact .cons rfl hv .nil
        | cons h1 h2 _ ih => exact .cons h1 h2 ih
      exact app hm
  · rw [Nat.zero_add] at q1
    have hj : es[j]? = some e := by simpa using q3
    refine ⟨es.modify j fun e => { e with key := .int .i64 n, val := v }, clk, ?_, ?_⟩
    · have hst : (Instr.keyThatStays (.int .i64 n) (.int .i64 n)).run P w = .ok (.int .i64 n) w := MapKept.run_keyThatStays (d := .int .i64) (by simp [MapKept.IsKey])
      simp [Instr.mapUpdate, run_underlying hu, MapKept.run_getObj_map hb, run_checkKey_int hkt, run_findKey_int hkt q1, hj, q4, hst, MapKept.run_setObj_map _ hb, Result.andThen]
    · rw [Array.toList_modify]
      exact q5 x v hv
theorem cMapUpd_ok {b : Nat} {t : TypeId} {m x y : Operand} (h : RelX C Γ σ val loc S F a.tmps w) (hdst : o.dst = none) (hop : o.op = .mapUpdate t m x y)
    (hc : cMapUpd b C.P Γ t m x y = some r) (hrun : r.run I σ = some σ') (hK : Cont C (apS Γ r) σ' a K) : o.wp C.P a w K Q := by
  unfold cMapUpd at hc
  split at hc
  · rename_i vb k π vb' px d' pv hm hmo hx hy
    split at hc
    · rename_i hcond
      simp only [Bool.and_eq_true, beq_iff_eq, Bool.not_eq_true', beq_false] at hcond
      obtain ⟨⟨rfl, rfl⟩, hne⟩ := hcond
      simp only [Option.some.injEq] at hc
      subst hc
      obtain ⟨_, rfl⟩ := sr_run (chk := []) (pre := []) hrun
      obtain ⟨kt, vt, hu, hkt, _⟩ := mapKind_ok hm
      obtain ⟨n, e1, e2⟩ := intOf_ok h hx []
      obtain ⟨_, cs2, hf2, hR2⟩ := plainOf_ok h hy []
      have hmv := MVal.ofFits hf2 hR2
      obtain ⟨d, cs, base, T0, pre, post, T1, blk, es, clk, ps, r1, u1, hT0, ecs, hev, g1, g2, hps, g3, hT1, wand⟩ := mapOf_ok h hmo
      obtain ⟨es', clk', hr, hm'⟩ := run_mapPut (n := n) hu hkt g1 g2 hmv
      have hset := MapKept.heap_set g1 (o' := .map es' clk')
      generalize hw' : ({ w with heap := w.heap.setIfInBounds blk (.map es' clk') } : World) = w' at hr
      have hsame : w'.heap[blk]? = some (.map es' clk') := by rw [← hw']; exact hset.1
      have hoth : ∀ i, i ≠ blk → w'.heap[i]? = w.heap[i]? := fun i hi => by rw [← hw']; exact hset.2 i hi
      have e9 : setAll σ [] [(k, .put (.k k) π (.mset (.get (.k k) π) px pv))] = updF σ k ((σ k).put π (.list (msetL n (pv.eval σ []) ps))) := by
        rw [setAll_one]
        congr 1
        simp only [PX.eval, hps, e2, PV.toList, PV.toInt]
      have q4 := wand (w' := w') (fun b' hb' => hoth b' fun e => by
        subst e
        rcases hb' with hb' | hb'
        · exact h.sF k _ (hT0 _ (hT1 _ g3)).1 hb'
        · exact hb'.2 g3) (R.mp (P := C.P) (F := F) vb blk es' clk' (msetL n (pv.eval σ []) ps) T1 hsame hm' g3) (fun b' hb' _ => hb')
      rw [SD.put_get π u1, ← ecs] at q4
      have hfin : ∀ b', ((T0 b' ∧ ¬T1 b') ∨ T1 b') → S k b' ∧ ∀ l, base = some l → b' ≠ l := fun b' hb' => by
        rcases hb' with hb' | hb'
        · exact hT0 b' hb'.1
        · exact hT0 b' (hT1 b' hb')
      have hlk : base = some (loc k) → w'.heap[loc k]? = w.heap[loc k]? := fun hb => hoth _ fun e => (hT0 _ (hT1 _ g3)).2 _ hb e.symm
      have hex : (execOp a.eval o).run C.P w = .ok .skip w' := by
        simp [execOp, hop, evalOp_eq, hev, e1, hr]
      refine upon_skip0 hdst hex (hK _ _ ?_ rfl)
      show Rel C (Rsc.ap Γ [(k, Γ k), (vk b, .none)] [] [k]) (setAll σ [] [(k, .put (.k k) π (.mset (.get (.k k) π) px pv))]) _ _
      rw [e9]
      refine ⟨_, _, _, _, h.reroot (w' := w') (vk_mod b) hne (g := Γ k) (so := [k]) (q := (σ k).put π (.list (msetL n (pv.eval σ []) ps))) (.inr ⟨rfl, rfl, fun hbx _ => ?_⟩) (fun b' _ hs _ => hoth b' fun e => hs (e ▸ (hT0 _ (hT1 _ g3)).1)) (by rw [← hw']) (by rw [← hw']) (by rw [← hw']) (by rw [← hw']; simp) ?_⟩
      · rcases r1 with ⟨a1, _, _⟩ | ⟨ty, arr0, a1, _, _, _, a5⟩
        · rw [a1] at hbx; cases hbx
        · exact hlk a5
      · rcases r1 with ⟨a1, a2, a3⟩ | ⟨ty, arr0, a1, a2, a3, a4, a5⟩
        · rw [a1]
          exact ⟨cs, a2, by rw [updF_same]; exact q4.wide (fun b' hb' => by simp only [if_true]; exact .inl (hfin b' hb').1)⟩
        · rw [a1]
          refine ⟨arr0, _, by rw [hlk a5]; exact a2, by simp only [if_true]; exact .inl a3, fun b' hb' => ⟨by simp only [if_true]; exact .inl (hfin b' hb').1, (hfin b' hb').2 _ a5⟩, by rw [updF_same, ← a4]; exact q4⟩
    · cases hc
  · cases hc
end
end Go.Rsc
