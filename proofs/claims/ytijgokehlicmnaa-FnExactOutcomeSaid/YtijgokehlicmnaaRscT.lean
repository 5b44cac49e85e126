/- Append, copy: the operations. No conditions. -/
import Derived.Test.YtijgokehlicmnaaRscS
namespace Go.Rsc
open Go.RowKit
set_option linter.unusedVariables false
set_option linter.unusedSimpArgs false

section
variable {P : Program} {w w' : World} {F F' : Set} {Γ : Nat → D} {σ : Nat → PV} {val : Nat → Value} {loc : Nat → Nat} {S : Nat → Set} {C : Cx} {tmps : Array Value}
variable {d d' x y : SD} {cs c : List Value} {p q : PV} {T T' : Set}
variable {a : Act} {o : Oper} {K : Act → World → Prop} {Q : Exit → Act → World → Prop} {dst : Nat} {v : Value} {I : Interp} {σ' : Nat → PV} {r : SR}

theorem sameTwo_ok {ts : Array TypeId} {t : TypeId} (h : sameTwo ts = some t) : ts = #[t, t] := by
  unfold sameTwo at h
  split at h
  · rename_i t' u hl
    split at h
    · rename_i e
      have e := beq_iff.1 e
      subst e
      simp only [Option.some.injEq] at h
      subst h
      apply Array.ext'
      exact hl
    · cases h
  · cases h

theorem cAppend_ok {b : Nat} {cl : Call} {as ax : Operand} (h : RelX C Γ σ val loc S F a.tmps w) (ht : dst < C.nt) (hdst : o.dst = some dst) (hop : o.op = .call cl) (hcl : cl.callee = .builtin .append) (has : cl.args.toList = [as, ax])
    (hc : cAppend b C.P Γ dst cl.argTypes as ax = some r) (hrun : r.run I σ = some σ') (hK : Cont C (apS Γ r) σ' a K) : o.wp C.P a w K Q := by
  have has' : cl.args = #[as, ax] := by
    apply Array.ext'
    exact has
  unfold cAppend at hc
  split at hc
  · rename_i e d0 m0 hty htk
    obtain ⟨t, hts, hu⟩ := Option.bind_eq_some_iff.1 hty
    have hts := sameTwo_ok hts
    have hex : ∀ {v' w'}, (Builtin.append_ #[t, t] o.type #[evalOp a.tmps as, evalOp a.tmps ax]).run C.P w = .ok v' w' → (execOp a.eval o).run C.P w = .ok (.value v') w' := fun {v' w'} e1 => by
      simp [execOp, hop, resolve, hcl, has', evalOp_eq, invoke, builtin, hts, e1]
    obtain ⟨S1, h1, hg⟩ := take_ok h (vk_mod b) htk
    have hk1 : vk b ≠ vk (b + 1) := fun e => by have := vk_inj e; omega
    -- the end, for all ways
    have fin : ∀ {pre : List MS} {y : PX} {m : Bool} {d : SD} {Γ2 : Nat → D} {val2 : Nat → Value} {S2 : Nat → Set} {v2 : Value} {qs : List PV} {T' : Set} {news : List Value} {Ts : Nat → Set},
        RelX C Γ2 (preRun (m0 :: pre) σ) val2 loc S2 F a.tmps w → (m0 :: pre).foldl apm Γ = Γ2 → Γ2 (vk b) = .v d0 → val2 (vk b) = evalOp a.tmps as → (d0 = .nl ∨ d0 = .own e m) → y.eval (preRun (m0 :: pre) σ) [] = .list qs → evalOp a.tmps ax = v2 →
        Gives C.P w F (el C.P m e) v2 qs T' news Ts → (∀ b', T' b' → S2 (vk (b + 1)) b') → C.P.cellsOf e = (el C.P m e).sz → C.P.cellsOf e ≠ 0 → C.P.bytesOf e ≠ 0 → hasDead (el C.P m e) = false → (∃ i z, C.P.info? e = some i ∧ i.zero = some z ∧ z.cells.size = C.P.cellsOf e) → (d = .own e m ∨ (d = .nl ∧ d0 = .nl ∧ v2 = .slice none 0 0)) →
        apFin b C.P e dst m0 d pre y = r → o.wp C.P a w K Q := by
      intro pre y m d Γ2 val2 S2 v2 qs T' news Ts h2 hΓ2 hgb hvb hd0 hy hx hgv hT' hcell hnz hnb hdead ⟨i, z, hi, hz, hzs⟩ hd hr
      subst hr
      obtain ⟨hchk, rfl⟩ := sr_run hrun
      have hok := h2.ok (vk b)
      rw [hgb] at hok
      obtain ⟨cs, hf, hR⟩ := hok
      rw [hvb] at hf
      have hcs := hf.single (by rcases hd0 with rfl | rfl <;> rfl)
      subst hcs
      obtain ⟨A, n, cap, ps, e1, e2, e3⟩ := R.ofSlice hR (by rcases hd0 with rfl | rfl; exact .inr (.inr rfl); exact .inr (.inl ⟨_, _, rfl⟩))
      simp only [List.all_cons, List.all_nil, Bool.and_true, PX.eval, e2, hy, PV.toList, PV.toBool, decide_eq_true_eq] at hchk
      rw [e2] at hR
      have hby : C.P.bytesOf e = i.bytes := by simp [Program.bytesOf, hi]
      have hci : C.P.cellsOf e = i.size := by simp [Program.cellsOf, hi]
      have hfit : (ps.length + qs.length) * i.bytes ≤ 140737488355328 := by
        refine Nat.le_trans (Nat.mul_le_mul_right _ hchk) ?_
        unfold most
        rw [hby]
        exact Nat.div_mul_le_self _ _
      obtain ⟨v', w', T'', r1, r2, r3, r4, r5, r6, r7, r8⟩ := run_append (P := C.P) (w := w) (ty := o.type) (m := m) hu hi hz (by rw [← hci, hcell]) (by rw [hzs, hci]) (by omega) (by omega) hd0 hR hgv (hgv.one hdead (by omega)) hfit (h2.sz (vk b)) (fun b' hb' => h2.sz _ b' (hT' b' hb')) h2.fz
        (fun b' hb' hb'' => hk1 (h2.dj _ _ b' hb' (hT' b' hb''))) (h2.sF (vk b)) (fun b' hb' hf => h2.sF _ b' (hT' b' hb') hf)
      have hd2 : R C.P w' F d [v'] (.list (ps ++ qs)) T'' := by
        rcases hd with rfl | ⟨rfl, rfl, hv2⟩
        · exact r2
        · have hq : qs = [] := by
            rcases hgv.val with ⟨_, _, h⟩ | ⟨ad, _, h, _⟩
            · exact h
            · rw [hv2] at h; simp at h
          generalize hvv : evalOp a.tmps as = vv at hR
          have hp : ps = [] := by cases hR; rfl
          subst hq
          subst hp
          cases hR
          rw [hv2, hvv] at r1
          have : v' = .slice none 0 0 := by
            simp [Builtin.append_, run_underlying hu, sizeOf, typeInfo, hi, Builtin.lenOf, Builtin.firstCells] at r1
            exact r1.1.symm
          subst this
          exact .nl _
      rw [← hx] at r1
      refine wp_val hdst (hex r1) (hK _ _ ?_ rfl)
      show Rel C (ap ((m0 :: pre).foldl apm Γ) ((tk dst, D.v d) :: noneOf [vk b, vk (b + 1)]) [tk dst] []) (setAll (preRun (m0 :: pre) σ) [] [(tk dst, .app (.k (vk b)) y)]) _ _
      rw [setAll_one, hΓ2]
      refine ⟨_, _, _, _, h2.make (w' := w') ht (ks := [vk b, vk (b + 1)]) (by simp [vk_mod]) (T := T'') (fun b' hb' => ?_) (fun b' hb' hs => r8 b' hb' (hs (vk b) (by simp))) r4 r5 r6 r7 ⟨_, .inr ⟨by rcases hd with rfl | ⟨rfl, _⟩ <;> rfl, rfl⟩, ?_⟩⟩
      · rcases r3 b' hb' with (hb' | hb') | hb'
        · exact .inl ⟨vk b, by simp, hb'⟩
        · exact .inl ⟨vk (b + 1), by simp, hT' b' hb'⟩
        · exact .inr hb'
      · simp only [PX.eval, e2, hy, PV.toList]
        exact hd2
    have good : ∀ {m : Bool}, apGood C.P e m = true → C.P.cellsOf e = (el C.P m e).sz ∧ C.P.cellsOf e ≠ 0 ∧ C.P.bytesOf e ≠ 0 ∧ hasDead (el C.P m e) = false ∧ ∃ i z, C.P.info? e = some i ∧ i.zero = some z ∧ z.cells.size = C.P.cellsOf e := by
      intro m hg
      unfold apGood at hg
      simp only [Bool.and_eq_true, Bool.not_eq_true', beq_iff, beq_false] at hg
      obtain ⟨⟨⟨⟨g1, g2⟩, g3⟩, g4⟩, g5⟩ := hg
      refine ⟨g1, g2, g3, g4, ?_⟩
      split at g5
      · rename_i z hz
        obtain ⟨i, hi, hz⟩ := Option.bind_eq_some_iff.1 hz
        exact ⟨i, z, hi, hz, beq_iff.1 g5⟩
      · cases g5
    have own0 : ∀ {m : Bool}, apOwn0 d0 e m = true → d0 = .nl ∨ d0 = .own e m := by
      intro m hg
      unfold apOwn0 at hg
      cases d0 <;> simp only [Bool.false_eq_true] at hg
      · exact .inl rfl
      · simp only [Bool.and_eq_true, beq_iff, beq_iff_eq] at hg
        obtain ⟨rfl, rfl⟩ := hg
        exact .inr rfl
    have hb1 : updF val (vk b) (evalOp a.tmps as) (vk b) = evalOp a.tmps as := updF_same _ _ _
    split at hc
    · rename_i e1 m m1 hmv
      split at hc
      · rename_i hcond
        simp only [Bool.and_eq_true, beq_iff, beq_iff_eq] at hcond
        obtain ⟨⟨⟨rfl, ho⟩, hgd⟩, hkeep⟩ := hcond
        obtain ⟨q1, q2, q3, q4, q5⟩ := good hgd
        have hmv' : take (apm Γ m0) ax (vk (b + 1)) = some (.own e1 m, m1) := by
          unfold apMv at hmv
          split at hmv
          · split at hmv
            · exact hmv
            · cases hmv
          · cases hmv
        obtain ⟨S2, h2, hg2⟩ := take_ok h1 (vk_mod (b + 1)) hmv'
        have hok := h2.ok (vk (b + 1))
        rw [hg2] at hok
        obtain ⟨cs, hf, hR⟩ := hok
        rw [updF_same] at hf
        have hcs := hf.single rfl
        subst hcs
        obtain ⟨A, n, cap, qs, e1', e2, e3⟩ := R.ofSlice hR (.inr (.inl ⟨_, _, rfl⟩))
        rw [e2] at hR
        obtain ⟨news, Ts, hgv⟩ := R.src hR
        exact fin (pre := [m1]) (y := .k (vk (b + 1))) h2 rfl hkeep (by rw [updF_ne _ _ hk1]; exact hb1) (own0 ho) e2 rfl hgv (fun b' hb' => hb') q1 q2 q3 q4 q5 (.inl rfl) (by simpa using hc)
      · cases hc
    · cases hc
    · split at hc
      · rename_i e1 y hl
        split at hc
        · rename_i hcond
          simp only [Bool.and_eq_true, beq_iff] at hcond
          obtain ⟨⟨⟨rfl, ho⟩, hgd⟩, hflat⟩ := hcond
          generalize apM d0 = m at ho hgd hflat hc
          obtain ⟨q1, q2, q3, q4, q5⟩ := good hgd
          obtain ⟨cs, hf, hR⟩ := lend_ok h1 hl []
          have hcs := hf.single rfl
          subst hcs
          obtain ⟨A, n, cap, qs, e1', e2, e3⟩ := R.ofSlice hR (.inl ⟨_, rfl⟩)
          rw [e2] at hR
          have hsd : sdOf C.P e1 = el C.P m e1 := by
            have h0 : (el C.P m e1).ro = sdOf C.P e1 := sdT_ro C.P m 8 e1
            rw [← h0]
            have : ∀ {d : SD}, flatS d = true → d.ro = d := by
              intro d
              induction d with
              | sc a b iha ihb => intro h; simp only [flatS, Bool.and_eq_true] at h; simp only [SD.ro, iha h.1, ihb h.2]
              | own => intro h; simp [flatS] at h
              | _ => intro _; rfl
            exact this hflat
          obtain ⟨news, hgv⟩ := R.srcBor (F' := F) hR (by rw [hsd]; exact hflat) (by rw [hsd, ← q1]; omega)
          rw [hsd] at hgv
          exact fin (pre := []) h1 rfl hg hb1 (own0 ho) e2 rfl hgv (fun b' hb' => hb'.elim) q1 q2 q3 q4 q5 (.inl rfl) (by simpa using hc)
        · cases hc
      · rename_i y hl
        obtain ⟨cs, hf, hR⟩ := lend_ok h1 hl []
        have hcs := hf.single rfl
        subst hcs
        have hnil : evalOp a.tmps ax = .slice none 0 0 := by
          generalize y.eval (setAll σ [] m0.sets) [] = py at hR
          generalize evalOp a.tmps ax = vx at hR
          cases hR; rfl
        have hgv : ∀ E : SD, Gives C.P w F E (.slice none 0 0) [] Set.none [] (fun _ => Set.none) := fun E => ⟨by simp, .inl ⟨0, rfl, rfl⟩, fun j q hq => by simp at hq, fun j b hb => hb, fun i j b hb => hb.elim⟩
        split at hc
        · rename_i hcond
          simp only [Bool.and_eq_true] at hcond
          obtain ⟨ho, hgd⟩ := hcond
          generalize hm : apM d0 = m at ho hgd
          obtain ⟨q1, q2, q3, q4, q5⟩ := good hgd
          exact fin (pre := []) (y := .lnil) h1 rfl hg hb1 (own0 ho) rfl hnil (hgv _) (fun b' hb' => hb'.elim) q1 q2 q3 q4 q5 (by
            rcases own0 ho with h | h
            · exact .inr ⟨h, h, rfl⟩
            · exact .inl h) (by simpa using hc)
        · cases hc
      · cases hc
  · cases hc
end
end Go.Rsc
