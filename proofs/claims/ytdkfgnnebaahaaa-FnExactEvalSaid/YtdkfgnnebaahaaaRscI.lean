/- Operations on scalars. No conditions. -/
import Derived.Test.YtdkfgnnebaahaaaRscH
import Derived.Laws.Small
namespace Go.Rsc
open Go.RowKit
set_option linter.unusedVariables false
set_option linter.unusedSimpArgs false

section
variable {P : Program} {w w' : World} {F F' : Set} {Γ : Nat → D} {σ : Nat → PV} {val : Nat → Value} {loc : Nat → Nat} {S : Nat → Set} {C : Cx} {tmps : Array Value}
variable {d d' x : SD} {cs c : List Value} {p : PV} {T T' : Set}

theorem R.eqInt {k : IntKind} {v : Value} (h : ∃ cs, Fits (.int k) v cs ∧ R P w F (.int k) cs p T) : ∃ n, v = .int k n ∧ p = .int n := by
  obtain ⟨cs, h1, h2⟩ := h; exact R.isInt h1 h2
theorem R.eqBool {v : Value} (h : ∃ cs, Fits .bool v cs ∧ R P w F .bool cs p T) : ∃ n, v = .bool n ∧ p = .bool n := by
  obtain ⟨cs, h1, h2⟩ := h; exact R.isBool h1 h2
theorem R.eqStr {v : Value} (h : ∃ cs, Fits .str v cs ∧ R P w F .str cs p T) : ∃ n, v = .string n ∧ p = .str n := by
  obtain ⟨cs, h1, h2⟩ := h; exact R.isStr h1 h2
theorem Fits.int (k : IntKind) (n : Int) : ∃ cs, Fits (.int k) (.int k n) cs ∧ R P w F (.int k) cs (.int n) T := ⟨_, .inr ⟨rfl, rfl⟩, .int ..⟩
theorem Fits.bool (n : Bool) : ∃ cs, Fits .bool (.bool n) cs ∧ R P w F .bool cs (.bool n) T := ⟨_, .inr ⟨rfl, rfl⟩, .bool ..⟩
theorem Fits.str (n : ByteArray) : ∃ cs, Fits .str (.string n) cs ∧ R P w F .str cs (.str n) T := ⟨_, .inr ⟨rfl, rfl⟩, .str ..⟩

section
variable {a : Act} {o : Oper} {K : Act → World → Prop} {Q : Exit → Act → World → Prop} {dst : Nat} {v : Value} {I : Interp} {σ' : Nat → PV} {r : SR}

theorem cBin_ok {op : BinOp} {xt : TypeId} {ax ay : Operand} {yt : TypeId} (h : RelX C Γ σ val loc S F a.tmps w) (ht : dst < C.nt) (hdst : o.dst = some dst) (hop : o.op = .binOp op xt ax ay yt)
    (hc : cBin C.P Γ dst op xt ax ay = some r) (hrun : r.run I σ = some σ') (hK : Cont C (apS Γ r) σ' a K) : o.wp C.P a w K Q := by
  have hex : ∀ {v : Value}, eqGuard op xt ax ay (evalOp a.tmps ax) (evalOp a.tmps ay) = pure () → (Go.binOp op xt (evalOp a.tmps ax) (evalOp a.tmps ay)).run C.P w = .ok v w → (execOp a.eval o).run C.P w = .ok (.value v) w := fun {v} e1 e2 => by
    simp [execOp, hop, evalOp_eq, e1, e2]
  unfold cBin at hc
  split at hc
  · rename_i k px k' py hx hy
    obtain ⟨_, cx⟩ := plainOf_ok h hx []
    obtain ⟨_, cy⟩ := plainOf_ok h hy []
    obtain ⟨m, ex, ex'⟩ := R.eqInt cx
    obtain ⟨n, ey, ey'⟩ := R.eqInt cy
    have hg : eqGuard op xt ax ay (evalOp a.tmps ax) (evalOp a.tmps ay) = pure () := by rw [ex]; exact eqGuard_at_int ..
    have fin : ∀ {d : SD} {px' : PX} {chk : List PX} {v : Value}, r = { mk1 dst (.v d) px' with chk := chk } → (∀ cs0 : Unit, chk.all (fun c => (c.eval σ []).toBool) = true → (Go.binOp op xt (.int k m) (.int k' n)).run C.P w = .ok v w ∧ ∃ cs, Fits d v cs ∧ R C.P w F d cs (px'.eval σ []) Set.none) → o.wp C.P a w K Q := by
      intro d px' chk v hr hv
      subst hr
      obtain ⟨hchk, rfl⟩ := mk1_run hrun
      obtain ⟨e1, e2⟩ := hv () hchk
      exact wp_plain h ht hdst (hex hg (by rw [ex, ey]; exact e1)) e2 hK
    have e0 : ∀ op', (PX.ar op' k px py).eval σ [] = .int (arith op' k m n) := fun op' => by simp [PX.eval, ex', ey', PV.toInt]
    have ec : ∀ op', (PX.cmp op' px py).eval σ [] = .bool (cmpI op' m n) := fun op' => by simp [PX.eval, ex', ey', PV.toInt]
    split at hc
    all_goals first
      | (simp only [Option.some.injEq] at hc
         refine fin (chk := [.cmp .geq py (.int 0)]) hc.symm fun _ hchk => ⟨?_, by rw [e0]; exact Fits.int ..⟩
         simp only [List.all_cons, List.all_nil, Bool.and_true, PX.eval, ey', PV.toInt, PV.toBool, cmpI, ltI, leI, gtI, geI, eqI, neI, decide_eq_true_eq] at hchk
         have hlt : ¬ n < 0 := by omega
         simp [Go.binOp, Op.shift, hlt, arith])
      | (split at hc
         · rename_i hk
           subst hk
           simp only [Option.some.injEq] at hc
           refine fin (chk := []) hc.symm fun _ _ => ⟨?_, by first | (rw [e0]; exact Fits.int ..) | (rw [ec]; exact Fits.bool ..)⟩
           simp [Go.binOp, Op.intArith, Op.intBits, Op.intCmp, arith, cmpI, ltI, leI, gtI, geI, eqI, neI]
         · cases hc)
      | (split at hc
         · rename_i hk
           subst hk
           simp only [Option.some.injEq] at hc
           refine fin (chk := [.cmp .neq py (.int 0)]) hc.symm fun _ hchk => ⟨?_, by rw [e0]; exact Fits.int ..⟩
           simp only [List.all_cons, List.all_nil, Bool.and_true, PX.eval, ey', PV.toInt, PV.toBool, cmpI, ltI, leI, gtI, geI, eqI, neI, bne_iff_ne, ne_eq] at hchk
           simp [Go.binOp, Op.intDiv, hchk, arith]
         · cases hc)
  · rename_i px py hx hy
    obtain ⟨_, cx⟩ := plainOf_ok h hx []
    obtain ⟨_, cy⟩ := plainOf_ok h hy []
    obtain ⟨m, ex, ex'⟩ := R.eqStr cx
    obtain ⟨n, ey, ey'⟩ := R.eqStr cy
    have hg : eqGuard op xt ax ay (evalOp a.tmps ax) (evalOp a.tmps ay) = pure () := by rw [ex]; exact eqGuard_at_string ..
    have fin : ∀ {d : SD} {px' : PX} {chk : List PX} {v : Value}, r = { mk1 dst (.v d) px' with chk := chk } → (∀ cs0 : Unit, chk.all (fun c => (c.eval σ []).toBool) = true → (Go.binOp op xt (.string m) (.string n)).run C.P w = .ok v w ∧ ∃ cs, Fits d v cs ∧ R C.P w F d cs (px'.eval σ []) Set.none) → o.wp C.P a w K Q := by
      intro d px' chk v hr hv
      subst hr
      obtain ⟨hchk, rfl⟩ := mk1_run hrun
      obtain ⟨e1, e2⟩ := hv () hchk
      exact wp_plain h ht hdst (hex hg (by rw [ex, ey]; exact e1)) e2 hK
    have ec : ∀ op', (PX.scmp op' px py).eval σ [] = .bool (cmpS op' m n) := fun op' => by simp [PX.eval, ex', ey', PV.toStr]
    split at hc
    all_goals first
      | (simp only [Option.some.injEq] at hc
         refine fin (chk := [.cmp .leq (.slen (.sadd px py)) (.int 9223372036854775807)]) (v := .string (m ++ n)) hc.symm fun _ hchk => ⟨?_, by simp only [PX.eval, ex', ey', PV.toStr, catB_eq]; exact Fits.str ..⟩
         simp only [List.all_cons, List.all_nil, Bool.and_true, PX.eval, ex', ey', PV.toInt, PV.toStr, PV.toBool, cmpI, ltI, leI, gtI, geI, eqI, neI, decide_eq_true_eq, ByteArray.size_append, catB_eq] at hchk
         have hlt : ¬ (((m.size + n.size : Nat) : Int) > IntKind.i64.max) := by
           have : IntKind.i64.max = 9223372036854775807 := by decide
           omega
         simp only [Go.binOp, Op.stringOp, if_neg hlt, Sem.run_pure])
      | (simp only [Option.some.injEq] at hc
         refine fin (chk := []) hc.symm fun _ _ => ⟨?_, by rw [ec]; exact Fits.bool ..⟩
         simp [Go.binOp, Op.stringOp, cmpS])
      | cases hc
  · rename_i px py hx hy
    obtain ⟨_, cx⟩ := plainOf_ok h hx []
    obtain ⟨_, cy⟩ := plainOf_ok h hy []
    obtain ⟨m, ex, ex'⟩ := R.eqBool cx
    obtain ⟨n, ey, ey'⟩ := R.eqBool cy
    have hg : eqGuard op xt ax ay (evalOp a.tmps ax) (evalOp a.tmps ay) = pure () := by rw [ex]; exact eqGuard_at_bool ..
    split at hc
    · rename_i hu
      simp only [Option.some.injEq] at hc
      subst hc
      rw [mk1_run0 hrun] at hK
      refine wp_plain (v := .bool (m == n)) h ht hdst (hex hg ?_) ?_ hK
      · rw [ex, ey]
        rw [show Go.binOp .eql xt (.bool m) (.bool n) = (do pure (.bool (← Op.equal xt (.bool m) (.bool n)))) from rfl, Sem.run_bind, run_equal_bool _ _ _ _ hu]
        rfl
      · have : (PX.bcmp true px py).eval σ [] = .bool (m == n) := by simp [PX.eval, ex', ey', PV.toBool]
        rw [this]; exact Fits.bool _
    · rename_i hu
      simp only [Option.some.injEq] at hc
      subst hc
      rw [mk1_run0 hrun] at hK
      refine wp_plain (v := .bool (!(m == n))) h ht hdst (hex hg ?_) ?_ hK
      · rw [ex, ey]
        rw [show Go.binOp .neq xt (.bool m) (.bool n) = (do pure (.bool (!(← Op.equal xt (.bool m) (.bool n))))) from rfl, Sem.run_bind, run_equal_bool _ _ _ _ hu]
        rfl
      · have : (PX.bcmp false px py).eval σ [] = .bool (!(m == n)) := by simp [PX.eval, ex', ey', PV.toBool]
        rw [this]; exact Fits.bool _
    · cases hc
  · cases hc

theorem R.eqIfc {v : Value} (h : ∃ cs, Fits .ifc v cs ∧ R P w F .ifc cs p T) : (v = .nilIface ∧ p = .bool true) ∨ ∃ t x, v = .iface t x ∧ p = .bool false := by
  obtain ⟨cs, h1, h2⟩ := h
  have hcs : cs = [v] := by
    rcases h1 with ⟨h, _⟩ | ⟨_, h⟩
    · cases h
    · exact h
  subst hcs
  cases h2 with
  | inil => exact .inl ⟨rfl, rfl⟩
  | isome t x => exact .inr ⟨t, x, rfl, rfl⟩
theorem run_equalIn_isnil {t : TypeId} {ms : Array (String × TypeId)} (h : P.underlying t = some (.interface ms)) (w : World) (d : Nat) {v : Value} {b : Bool} (hv : (v = .nilIface ∧ b = true) ∨ ∃ u x, v = .iface u x ∧ b = false) : (Op.equalIn (d + 1) t v .nilIface).run P w = .ok b w := by
  rcases hv with ⟨rfl, rfl⟩ | ⟨u, x, rfl, rfl⟩ <;> simp [Op.equalIn, run_underlying h]
theorem run_equal_isnil {t : TypeId} {ms : Array (String × TypeId)} (h : P.underlying t = some (.interface ms)) (w : World) {v : Value} {b : Bool} (hv : (v = .nilIface ∧ b = true) ∨ ∃ u x, v = .iface u x ∧ b = false) : (Op.equal t v .nilIface).run P w = .ok b w := run_equalIn_isnil h w 9999 hv
theorem cIsNil_ok {op : BinOp} {xt : TypeId} {ax ay : Operand} {yt : TypeId} (h : RelX C Γ σ val loc S F a.tmps w) (ht : dst < C.nt) (hdst : o.dst = some dst) (hop : o.op = .binOp op xt ax ay yt) (hn : isNilC ay = true)
    (hc : cIsNil C.P Γ dst op xt ax = some r) (hrun : r.run I σ = some σ') (hK : Cont C (apS Γ r) σ' a K) : o.wp C.P a w K Q := by
  have hay : ay = .const .nilIface := by
    unfold isNilC at hn
    split at hn
    · rfl
    · cases hn
  subst hay
  have hex : ∀ {v : Value}, eqGuard op xt ax (.const .nilIface) (evalOp a.tmps ax) .nilIface = pure () → (Go.binOp op xt (evalOp a.tmps ax) .nilIface).run C.P w = .ok v w → (execOp a.eval o).run C.P w = .ok (.value v) w := fun {v} e1 e2 => by
    have e0 : evalOp a.tmps (.const .nilIface) = .nilIface := rfl
    simp [execOp, hop, evalOp_eq, e0, e1, e2]
  unfold cIsNil at hc
  split at hc
  · rename_i ms px hu hx
    obtain ⟨_, cx⟩ := plainOf_ok h hx []
    simp only [Option.some.injEq] at hc
    subst hc
    rw [mk1_run0 hrun] at hK
    obtain ⟨b, ev, ep⟩ : ∃ b, ((evalOp a.tmps ax = .nilIface ∧ b = true) ∨ ∃ u x, evalOp a.tmps ax = .iface u x ∧ b = false) ∧ px.eval σ [] = .bool b := by
      rcases R.eqIfc cx with ⟨e1, e2⟩ | ⟨t, x, e1, e2⟩
      · exact ⟨true, .inl ⟨e1, rfl⟩, e2⟩
      · exact ⟨false, .inr ⟨t, x, e1, rfl⟩, e2⟩
    have hg : eqGuard .eql xt ax (.const .nilIface) (evalOp a.tmps ax) .nilIface = pure () := by
      rcases ev with ⟨e1, _⟩ | ⟨t, x, e1, _⟩ <;> rw [e1] <;> simp [eqGuard]
    refine wp_plain (v := .bool b) h ht hdst (hex hg ?_) (by rw [ep]; exact Fits.bool _) hK
    have hr := run_equal_isnil hu w ev
    generalize evalOp a.tmps ax = v at hr ev
    rw [show Go.binOp .eql xt v .nilIface = (do pure (.bool (← Op.equal xt v .nilIface))) from by rcases ev with ⟨rfl, _⟩ | ⟨t, x, rfl, _⟩ <;> rfl, Sem.run_bind, hr]
    rfl
  · rename_i ms px hu hx
    obtain ⟨_, cx⟩ := plainOf_ok h hx []
    simp only [Option.some.injEq] at hc
    subst hc
    rw [mk1_run0 hrun] at hK
    obtain ⟨b, ev, ep⟩ : ∃ b, ((evalOp a.tmps ax = .nilIface ∧ b = true) ∨ ∃ u x, evalOp a.tmps ax = .iface u x ∧ b = false) ∧ px.eval σ [] = .bool b := by
      rcases R.eqIfc cx with ⟨e1, e2⟩ | ⟨t, x, e1, e2⟩
      · exact ⟨true, .inl ⟨e1, rfl⟩, e2⟩
      · exact ⟨false, .inr ⟨t, x, e1, rfl⟩, e2⟩
    have hg : eqGuard .neq xt ax (.const .nilIface) (evalOp a.tmps ax) .nilIface = pure () := by
      rcases ev with ⟨e1, _⟩ | ⟨t, x, e1, _⟩ <;> rw [e1] <;> simp [eqGuard]
    refine wp_plain (v := .bool (!b)) h ht hdst (hex hg ?_) (by simp only [PX.eval, ep, PV.toBool]; exact Fits.bool _) hK
    have hr := run_equal_isnil hu w ev
    generalize evalOp a.tmps ax = v at hr ev
    rw [show Go.binOp .neq xt v .nilIface = (do pure (.bool (!(← Op.equal xt v .nilIface)))) from by rcases ev with ⟨rfl, _⟩ | ⟨t, x, rfl, _⟩ <;> rfl, Sem.run_bind, hr]
    rfl
  · cases hc

theorem cUn_ok {op : UnOp} {xt : TypeId} {ax : Operand} (h : RelX C Γ σ val loc S F a.tmps w) (ht : dst < C.nt) (hdst : o.dst = some dst) (hop : o.op = .unOp op xt ax)
    (hc : cUn Γ dst op ax = some r) (hrun : r.run I σ = some σ') (hK : Cont C (apS Γ r) σ' a K) : o.wp C.P a w K Q := by
  have hex : ∀ {v : Value}, (Op.unary op (evalOp a.tmps ax)).run C.P w = .ok v w → (execOp a.eval o).run C.P w = .ok (.value v) w := fun {v} e2 => by
    simp [execOp, hop, evalOp_eq, e2]
  unfold cUn at hc
  split at hc
  · rename_i px hx
    obtain ⟨_, cx⟩ := plainOf_ok h hx []
    obtain ⟨m, ex, ex'⟩ := R.eqBool cx
    simp only [Option.some.injEq] at hc
    subst hc
    rw [mk1_run0 hrun] at hK
    exact wp_plain (v := .bool (!m)) h ht hdst (hex (by rw [ex]; simp [Op.unary])) (by simp only [PX.eval, ex', PV.toBool]; exact Fits.bool _) hK
  · rename_i k px hx
    obtain ⟨_, cx⟩ := plainOf_ok h hx []
    obtain ⟨m, ex, ex'⟩ := R.eqInt cx
    simp only [Option.some.injEq] at hc
    subst hc
    rw [mk1_run0 hrun] at hK
    exact wp_plain (v := .int k (k.wrap (0 - m))) h ht hdst (hex (by rw [ex]; simp [Op.unary, Op.intArith])) (by simp only [PX.eval, ex', PV.toInt, arith]; exact Fits.int ..) hK
  · cases hc

theorem cPick_ok {c0 ax ay : Operand} (h : RelX C Γ σ val loc S F a.tmps w) (ht : dst < C.nt) (hdst : o.dst = some dst) (hop : o.op = .pick c0 ax ay)
    (hc : cPick Γ dst c0 ax ay = some r) (hrun : r.run I σ = some σ') (hK : Cont C (apS Γ r) σ' a K) : o.wp C.P a w K Q := by
  unfold cPick at hc
  split at hc
  · rename_i t
    have hv : evalOp a.tmps (.tmp t) = val (tk t) := (h.tm t).symm
    have hok := h.ok (tk t)
    split at hc
    · rename_i d1 px d2 py hΓ hx hy
      rw [hΓ] at hok
      obtain ⟨cnd, e1, e2⟩ := R.eqBool hok
      split at hc
      · rename_i e
        subst e
        simp only [Option.some.injEq] at hc
        subst hc
        rw [mk1_run0 hrun] at hK
        have key : ∀ (b : Bool) (ax : Operand) (px : PX), cnd = b → plainOf (under Γ (tk t) b) ax = some (d1, px) → ∃ cs, Fits d1 (evalOp a.tmps ax) cs ∧ R C.P w F d1 cs (px.eval σ []) Set.none := by
          intro b ax px hb hp
          unfold plainOf at hp
          split at hp
          · rename_i c
            obtain ⟨h1, h2⟩ := constOf_R (P := C.P) (w := w) (F := F) (σ := σ) (T := Set.none) hp []
            exact ⟨_, h1, h2⟩
          · rename_i u
            have hku := h.ok (tk u)
            have : ∃ d0, under Γ (tk t) b (tk u) = .v d0 ∧ d0.plain = true ∧ d0 = d1 ∧ px = .k (tk u) := by
              split at hp
              · rename_i d0 hd0
                split at hp
                · rename_i hpl
                  simp only [Option.some.injEq, Prod.mk.injEq] at hp
                  exact ⟨d0, hd0, hpl, hp.1, hp.2.symm⟩
                · cases hp
              · cases hp
            obtain ⟨d0, h0, hpl, rfl, rfl⟩ := this
            have hev : evalOp a.tmps (.tmp u) = val (tk u) := (h.tm u).symm
            rw [hev]
            unfold under at h0
            have : Ok C.P w F Γ σ val loc S (tk u) (.v d0) := by
              split at h0
              · rename_i g' b' d' hg
                split at h0
                · rename_i hgb
                  simp only [Bool.and_eq_true, beq_iff, beq_iff_eq] at hgb
                  obtain ⟨rfl, rfl⟩ := hgb
                  subst h0
                  rw [hg] at hku
                  simp only [Ok] at hku
                  rw [if_pos (by rw [e2, hb]; simp [PV.isB])] at hku
                  exact hku
                · cases h0
              · rw [h0] at hku; exact hku
            obtain ⟨cs, g1, g2⟩ := this
            exact ⟨cs, g1, g2.ofPlain hpl _⟩
          · cases hp
        have hr : (execOp a.eval o).run C.P w = .ok (.value (if cnd then evalOp a.tmps ax else evalOp a.tmps ay)) w := by
          have : a.eval (.tmp t) = .bool cnd := by rw [evalOp_eq, hv, e1]
          simp [execOp, hop, this, asBool, ← evalOp_eq]
        refine wp_plain h ht hdst hr ?_ hK
        cases hcn : cnd
        · simp only [PX.eval, e2, hcn, PV.toBool]
          simpa using key false ay py hcn hy
        · simp only [PX.eval, e2, hcn, PV.toBool]
          simpa using key true ax px hcn hx
      · cases hc
    · cases hc
  · cases hc

theorem cMakeFunc_ok {f : Fn} {first caps : Array Operand} (h : RelX C Γ σ val loc S F a.tmps w) (ht : dst < C.nt) (hdst : o.dst = some dst) (hop : o.op = .makeFunc f first caps)
    (hc : cMakeFunc Γ dst f first caps = some r) (hrun : r.run I σ = some σ') (hK : Cont C (apS Γ r) σ' a K) : o.wp C.P a w K Q := by
  unfold cMakeFunc at hc
  split at hc
  · rename_i g ks hfe hks
    split at hc
    · cases hc
    · rename_i hne
      simp only [Option.some.injEq] at hc
      subst hc
      rw [mk1_run0 hrun] at hK
      have hks' : ∀ (l : List Operand) (ks : List Nat), tmpKeys l = some ks → l.map (evalOp a.tmps) = ks.map val := by
        intro l
        induction l with
        | nil => intro ks e; simp only [tmpKeys, Option.some.injEq] at e; subst e; rfl
        | cons x l ih =>
          intro ks e
          cases x with
          | tmp t =>
            simp only [tmpKeys] at e
            obtain ⟨ks', e1, rfl⟩ := Option.map_eq_some_iff.1 e
            simp only [List.map_cons, ih _ e1]
            rw [show evalOp a.tmps (.tmp t) = val (tk t) from (h.tm t).symm]
          | _ => simp [tmpKeys] at e
      have e1 := hks' _ _ hks
      have hfi : first = #[] := by
        simpa using hfe
      have e2 : caps.map a.eval = (ks.map val).toArray := by
        rw [← e1]
        have : (fun x => evalOp a.tmps x) = a.eval := funext fun x => (evalOp_eq a x).symm
        apply Array.ext'
        simp [evalOp_eq]
      have hr : (execOp a.eval o).run C.P w = .ok (.value (.func (.func g) #[] (ks.map val).toArray)) w := by
        simp [execOp, hop, Instr.makeFunc, hfi, e2]
      simp only [Bool.or_eq_true, not_or] at hne
      have hnk : ∀ k ∈ ks, k ≠ tk dst := fun k hk e => hne.1 (List.any_eq_true.2 ⟨k, hk, beq_iff.2 e.symm⟩)
      refine wp_set1 (x := .clo g ks) (p := .unit) h ht hdst hr ⟨?_, by rw [updF_same]⟩ hK
      rw [updF_same]
      have : ks.map (updF val (tk dst) (.func (.func g) #[] (ks.map val).toArray)) = ks.map val := List.map_congr_left fun k hk => updF_ne _ _ (hnk k hk)
      rw [this]
  · cases hc

/-! ### Shared pointers -/
theorem R.fpSome {t : TypeId} {v : Value} {p : PV} {T : Set} {P : Program} {w : World} {F : Set} (h : R P w F (.fp t) [v] p T) (hp : 0 < p.toList.length) : ∃ b, v = .pointer (some ⟨b, 0, none⟩) := by
  generalize hd : SD.fp t = d at h
  generalize hc : [v] = cs at h
  cases h <;> cases hd
  · simp [PV.toList] at hp
  · simp only [List.cons.injEq, and_true] at hc; exact ⟨_, hc⟩
  · simp only [List.cons.injEq, and_true] at hc; exact ⟨_, hc⟩
theorem R.fpList {t : TypeId} {cs : List Value} {p : PV} {T : Set} {P : Program} {w : World} {F : Set} (h : R P w F (.fp t) cs p T) : ∃ l, p = .list l ∧ l.length ≤ 1 := by
  generalize hd : SD.fp t = d at h
  cases h <;> cases hd
  · exact ⟨_, rfl, by simp⟩
  · exact ⟨_, rfl, by simp⟩
  · exact ⟨_, rfl, by simp⟩
theorem nonNil_ok {k : Nat} {σ : Nat → PV} (h : (nonNil k).all (fun c => (c.eval σ []).toBool) = true) : 0 < (σ k).toList.length := by
  have h1 : ((PX.cmp .gtr (.len (.k k)) (.int 0)).eval σ []).toBool = true := by simpa [nonNil] using h
  have h2 : gtI ((σ k).toList.length : Int) 0 = true := h1
  unfold gtI at h2
  have h3 := of_decide_eq_true h2
  omega
/-- What a temporary that holds a shared pointer leads to. -/
theorem fpPlace_ok (h : RelX C Γ σ val loc S F a.tmps w) {p : Nat} {t : TypeId} {k : Nat} (hp : fpPlace Γ p = some (t, k)) : R C.P w F (.fp t) [val (tk p)] (σ k) Set.none := by
  unfold fpPlace at hp
  have hok := h.ok (tk p)
  split at hp
  · rename_i t' hΓ
    simp only [Option.some.injEq, Prod.mk.injEq] at hp
    obtain ⟨rfl, rfl⟩ := hp
    rw [hΓ] at hok
    obtain ⟨cs, hf, hR⟩ := hok
    have hcs : cs = [val (tk p)] := by
      rcases hf with ⟨h1, _⟩ | ⟨_, h1⟩
      · cases h1
      · exact h1
    subst hcs
    exact hR.ofPlain rfl _
  · rename_i o hΓ
    rw [hΓ] at hok
    split at hp
    · rename_i t' hΓo
      simp only [Option.some.injEq, Prod.mk.injEq] at hp
      obtain ⟨rfl, rfl⟩ := hp
      have hko := h.ok o
      rw [hΓo] at hko
      rw [hok.1]
      exact hko
    · cases hp
  · cases hp

theorem cNil_ok {ax : Operand} (h : RelX C Γ σ val loc S F a.tmps w) (ht : dst < C.nt) (hdst : o.dst = some dst) (hop : o.op = .nilCheck ax)
    (hc : cNil Γ dst ax = some r) (hrun : r.run I σ = some σ') (hK : Cont C (apS Γ r) σ' a K) : o.wp C.P a w K Q := by
  unfold cNil at hc
  split at hc
  · rename_i t
    have hv : a.eval (.tmp t) = val (tk t) := (h.tm t).symm
    have hok := h.ok (tk t)
    by_cases hfp : ∃ t', Γ (tk t) = .v (.fp t')
    · obtain ⟨t', hΓ⟩ := hfp
      rw [hΓ] at hc
      simp only [Option.some.injEq] at hc
      subst hc
      obtain ⟨hchk, rfl⟩ := mk1_run hrun
      have hR := fpPlace_ok (p := t) (t := t') (k := tk t) h (by simp [fpPlace, hΓ])
      obtain ⟨b, hb⟩ := hR.fpSome (nonNil_ok hchk)
      have hr : (execOp a.eval o).run C.P w = .ok (.value (val (tk t))) w := by
        simp [execOp, hop, hv, hb]
      exact wp_plain h ht hdst hr ⟨_, .inr ⟨rfl, rfl⟩, hR⟩ hK
    have : ∃ ad, a.eval (.tmp t) = .pointer (some ad) := by
      rw [hv]
      split at hc
      · rename_i hΓ; rw [hΓ] at hok; exact ⟨_, hok.1⟩
      · rename_i hΓ; rw [hΓ] at hok; obtain ⟨⟨_, _, _, _, _, b, off, _, _, e⟩, _⟩ := hok; exact ⟨_, e⟩
      · rename_i hΓ; rw [hΓ] at hok; obtain ⟨ad, _, e, _⟩ := hok; exact ⟨_, e⟩
      · rename_i hΓ; rw [hΓ] at hok; obtain ⟨⟨_, _, _, _, _, _, _, _, _, _, e⟩, _⟩ := hok; exact ⟨_, e⟩
      · rename_i hΓ; exact absurd ⟨_, hΓ⟩ hfp
      · cases hc
    refine cMove_ok h ht hdst (.inr (.inr ⟨hop, this⟩)) ?_ hrun hK
    cases hΓ : Γ (tk t) <;> simp only [hΓ] at hc <;> first | exact hc | cases hc | skip
    rename_i d0
    cases d0 <;> first | cases hc | skip
    exact absurd ⟨_, hΓ⟩ hfp
  · cases hc

theorem cExtract_ok {ax : Operand} {i : Nat} (h : RelX C Γ σ val loc S F a.tmps w) (ht : dst < C.nt) (hdst : o.dst = some dst) (hop : o.op = .extract ax i)
    (hc : cExtract Γ dst ax i = some r) (hrun : r.run I σ = some σ') (hK : Cont C (apS Γ r) σ' a K) : o.wp C.P a w K Q := by
  unfold cExtract at hc
  split at hc
  · rename_i t
    have hv : a.eval (.tmp t) = val (tk t) := (h.tm t).symm
    have hok := h.ok (tk t)
    split at hc
    · rename_i ks hΓ
      rw [hΓ] at hok
      split at hc
      · rename_i k hk
        have hr : (execOp a.eval o).run C.P w = .ok (.value (val k)) w := by
          have e : (ks.map val).toArray[i]? = some (val k) := by simp [hk]
          simp only [execOp, hop, hv, hok.1, Instr.extract, e]
          simp
        split at hc
        · cases hc
        · rename_i hne
          have hne : k ≠ tk dst := fun e => hne (beq_iff.2 e)
          split at hc
          · rename_i d0 hΓk
            have hk' := h.ok k
            rw [hΓk] at hk'
            obtain ⟨cs, hf, hR⟩ := hk'
            split at hc
            · rename_i hp
              simp only [Option.some.injEq] at hc
              subst hc
              rw [mk1_run0 hrun] at hK
              exact wp_plain h ht hdst hr ⟨cs, hf, hR.ofPlain hp _⟩ hK
            · simp only [Option.some.injEq] at hc
              subst hc
              rw [mk1_run0 hrun] at hK
              refine view_set h ht hdst hr (d := d0) (cs := cs) (base := none) (x := d0) (c := cs) (ad := none) (.inl ⟨hΓk, hf, rfl⟩) ?_ hf (fun _ => rfl) hne hK
              unfold Sub
              simp only [SD.get, SD.off, List.drop_zero, Option.map_none, true_and, and_true]
              rw [← hR.len, List.take_length]
          · cases hc
      · cases hc
    · cases hc
  · cases hc

theorem bytes_at (s : ByteArray) (i : Nat) (h : i < s.size) : s.data.getD i 0 = s[i] := by
  cases s with
  | mk dt =>
    have : i < dt.size := h
    simp only [Array.getD_eq_getD_getElem?]
    rw [Array.getElem?_eq_getElem this]
    rfl

theorem cIndex_ok {t : TypeId} {ax ai : Operand} (h : RelX C Γ σ val loc S F a.tmps w) (ht : dst < C.nt) (hdst : o.dst = some dst) (hop : o.op = .index t ax ai)
    (hc : cIndex C.P Γ dst t ax ai = some r) (hrun : r.run I σ = some σ') (hK : Cont C (apS Γ r) σ' a K) : o.wp C.P a w K Q := by
  unfold cIndex at hc
  split at hc
  · rename_i px k pi hu hx hi
    simp only [Option.some.injEq] at hc
    subst hc
    obtain ⟨hchk, rfl⟩ := mk1_run hrun
    obtain ⟨_, cx⟩ := plainOf_ok h hx []
    obtain ⟨s, ex, ex'⟩ := R.eqStr cx
    obtain ⟨n, ei, ei'⟩ := intOf_ok h hi []
    simp only [inRange, List.all_cons, List.all_nil, Bool.and_true, Bool.and_eq_true, PX.eval, ex', ei', PV.toInt, PV.toStr, PV.toBool, cmpI, ltI, leI, gtI, geI, eqI, neI, decide_eq_true_eq] at hchk
    have hin : 0 ≤ n ∧ n < s.size := ⟨hchk.1, hchk.2⟩
    refine wp_plain (v := .int .u8 (s[n.toNat]'(by omega)).toNat) h ht hdst ?_ ?_ hK
    · simp [execOp, hop, evalOp_eq, ex, ei, run_index_string (P := C.P) w t s k n hu, hin]
    · have : (PX.sat px pi).eval σ [] = .int (s[n.toNat]'(by omega)).toNat := by
        simp only [PX.eval, ex', ei', PV.toInt, PV.toStr]
        rw [bytes_at s n.toNat (by omega)]
      rw [this]
      exact Fits.int ..
  · cases hc
end
end
end Go.Rsc
