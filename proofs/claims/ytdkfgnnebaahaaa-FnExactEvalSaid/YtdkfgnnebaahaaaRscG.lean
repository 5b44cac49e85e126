/- Operations that only look: what they leave. No conditions. -/
import Derived.Test.YtdkfgnnebaahaaaRscF
import Derived.Laws.Entries
import Derived.Laws.Cells
import Derived.Laws.CopyRow
import Derived.ChangeKeysEq
import Derived.Calls
namespace Go.Rsc
open Go.RowKit
set_option linter.unusedVariables false
set_option linter.unusedSimpArgs false

section
variable {P : Program} {w w' : World} {F F' : Set} {Γ : Nat → D} {σ : Nat → PV} {val : Nat → Value} {loc : Nat → Nat} {S : Nat → Set} {C : Cx} {tmps : Array Value}
variable {d d' : SD} {cs : List Value} {p : PV} {T T' : Set}

theorem info_of_underlying {t : TypeId} {x : TypeDesc} (h : P.underlying t = some x) : ∃ i, P.info? t = some i := by
  unfold Program.underlying at h
  cases hi : P.info? t with
  | none => simp [hi] at h
  | some i => exact ⟨i, rfl⟩
theorem run_sizeOf' {t : TypeId} {x : TypeDesc} (h : P.underlying t = some x) (w : World) : (sizeOf t).run P w = .ok (P.cellsOf t) w := by
  obtain ⟨i, hi⟩ := info_of_underlying h
  simp [sizeOf, typeInfo, hi, Program.cellsOf]

theorem tyOk_spec {t : TypeId} {d : SD} (h : tyOk P t d = true) : (∃ x, P.underlying t = some x ∧ ((∃ fs, x = .struct fs) ∧ d.isAgg = true ∨ ((∀ fs, x ≠ .struct fs) ∧ (∀ n e, x ≠ .array n e) ∧ d.isAgg = false))) ∧ P.cellsOf t = d.sz := by
  unfold tyOk at h
  simp only [Bool.and_eq_true] at h
  obtain ⟨h1, h2⟩ := h
  refine ⟨?_, by simpa using h2⟩
  cases hu : P.underlying t with
  | none => simp [hu] at h1
  | some x =>
    refine ⟨x, rfl, ?_⟩
    cases x <;> simp [hu] at h1 <;> first | exact .inl ⟨⟨_, rfl⟩, h1⟩ | exact .inr ⟨fun fs => by simp, fun n e => by simp, h1⟩

/-- A load of known cells. -/
theorem run_loadAt {t : TypeId} {ad : Addr} {v : Value} (ht : tyOk P t d = true) (hl : cs.length = d.sz) (hc : ∀ i u, cs[i]? = some u → w.cell? (ad.add i) = some u) (hf : Fits d v cs) :
    (Instr.loadAt t (.pointer (some ad))).run P w = .ok v w := by
  obtain ⟨⟨x, hu, hx⟩, hsz⟩ := tyOk_spec ht
  unfold Instr.loadAt Instr.sureAddr loadVar isAgg
  rcases hx with ⟨⟨fs, rfl⟩, ha⟩ | ⟨h1, h2, ha⟩
  · rcases hf with ⟨_, rfl⟩ | ⟨hb, _⟩
    · have := run_loadCells_list (P := P) w ad cs hc
      simp only [Sem.run_bind, Sem.run_pure, Result.andThen_ok, run_underlying hu, run_sizeOf' hu, hsz, ← hl, if_true]
      rw [this]
      simp
    · rw [ha] at hb; cases hb
  · rcases hf with ⟨hb, _⟩ | ⟨_, rfl⟩
    · rw [ha] at hb; cases hb
    · have h0 := hc 0 v rfl
      have : ad.add 0 = ad := rfl
      rw [this] at h0
      have hcond : (match x with | .struct _ | .array _ _ => (Pure.pure true : Sem Bool) | _ => Pure.pure false) = Pure.pure false := by
        cases x <;> simp at h1 h2 <;> rfl
      simp only [Sem.run_bind, Sem.run_pure, Result.andThen_ok, run_underlying hu]
      cases x <;> first | (exact absurd rfl (h1 _)) | (exact absurd rfl (h2 _ _)) | simp [h0]

theorem plainOf_ok (h : RelX C Γ σ val loc S F tmps w) {x : Operand} {px : PX} (hx : plainOf Γ x = some (d, px)) (rs : List PV) :
    d.plain = true ∧ ∃ cs, Fits d (evalOp tmps x) cs ∧ R C.P w F d cs (px.eval σ rs) Set.none := by
  unfold plainOf at hx
  split at hx
  · rename_i c
    obtain ⟨h1, h2⟩ := constOf_R (P := C.P) (w := w) (F := F) (σ := σ) (T := Set.none) hx rs
    refine ⟨?_, _, h1, h2⟩
    unfold constOf at hx
    split at hx <;> simp only [Option.some.injEq, Prod.mk.injEq, reduceCtorEq] at hx <;> (obtain ⟨rfl, _⟩ := hx; rfl)
  · rename_i t
    split at hx
    · rename_i d0 hΓ
      split at hx
      · rename_i hp
        simp only [Option.some.injEq, Prod.mk.injEq] at hx
        obtain ⟨rfl, rfl⟩ := hx
        have hok := h.ok (tk t)
        rw [hΓ] at hok
        obtain ⟨cs, hf, hR⟩ := hok
        refine ⟨hp, cs, ?_, hR.ofPlain hp _⟩
        rw [show evalOp tmps (.tmp t) = val (tk t) from (h.tm t).symm]
        exact hf
      · cases hx
    · cases hx
  · cases hx
theorem R.isInt {k : IntKind} {v : Value} (hf : Fits (.int k) v cs) (h : R P w F (.int k) cs p T) : ∃ n, v = .int k n ∧ p = .int n := by
  rcases hf with ⟨h1, _⟩ | ⟨_, rfl⟩
  · simp [SD.isAgg] at h1
  · cases h; exact ⟨_, rfl, rfl⟩
theorem R.isBool {v : Value} (hf : Fits .bool v cs) (h : R P w F .bool cs p T) : ∃ b, v = .bool b ∧ p = .bool b := by
  rcases hf with ⟨h1, _⟩ | ⟨_, rfl⟩
  · simp [SD.isAgg] at h1
  · cases h; exact ⟨_, rfl, rfl⟩
theorem R.isStr {v : Value} (hf : Fits .str v cs) (h : R P w F .str cs p T) : ∃ b, v = .string b ∧ p = .str b := by
  rcases hf with ⟨h1, _⟩ | ⟨_, rfl⟩
  · simp [SD.isAgg] at h1
  · cases h; exact ⟨_, rfl, rfl⟩
theorem intOf_ok (h : RelX C Γ σ val loc S F tmps w) {x : Operand} {k : IntKind} {px : PX} (hx : intOf Γ x = some (k, px)) (rs : List PV) : ∃ n, evalOp tmps x = .int k n ∧ px.eval σ rs = .int n := by
  unfold intOf at hx
  split at hx
  · rename_i k0 px0 hp
    simp only [Option.some.injEq, Prod.mk.injEq] at hx
    obtain ⟨rfl, rfl⟩ := hx
    obtain ⟨_, cs, hf, hR⟩ := plainOf_ok h hp rs
    exact R.isInt hf hR
  · cases hx

/-! ### What follows an operation -/
abbrev Cont (C : Cx) (Γ' : Nat → D) (σ' : Nat → PV) (a : Act) (K : Act → World → Prop) : Prop := ∀ (a' : Act) (w' : World), Rel C Γ' σ' a'.tmps w' → a'.defers = a.defers → K a' w'

theorem mk1_run {I : Interp} {dst : Nat} {x : D} {px : PX} {chk : List PX} {σ' : Nat → PV} (h : ({ mk1 dst x px with chk := chk } : SR).run I σ = some σ') : chk.all (fun c => (c.eval σ []).toBool) = true ∧ σ' = updF σ (tk dst) (px.eval σ []) := by
  change (if (chk.all fun c => (PX.eval σ [] c).toBool) = true then some (setAll σ [] [(tk dst, px)]) else none) = some σ' at h
  by_cases hc : (chk.all fun c => (PX.eval σ [] c).toBool) = true
  · rw [if_pos hc] at h
    simp only [Option.some.injEq] at h
    exact ⟨hc, by rw [← h, setAll_one]⟩
  · rw [if_neg hc] at h
    cases h
theorem mk1_run0 {I : Interp} {dst : Nat} {x : D} {px : PX} {σ' : Nat → PV} (h : (mk1 dst x px).run I σ = some σ') : σ' = updF σ (tk dst) (px.eval σ []) := (mk1_run (chk := []) h).2

section
variable {a : Act} {o : Oper} {K : Act → World → Prop} {Q : Exit → Act → World → Prop} {dst : Nat} {v : Value}
theorem wp_val (hdst : o.dst = some dst) (hr : (execOp a.eval o).run P w = .ok (.value v) w') (hK : K { a with tmps := a.tmps.setIfInBounds dst v } w') : o.wp P a w K Q := by
  unfold Oper.wp
  rw [hr, Oper.upon_value, hdst]
  exact hK
/-- A step that leaves something that owns nothing. -/
theorem wp_set1 (h : RelX C Γ σ val loc S F a.tmps w) (ht : dst < C.nt) (hdst : o.dst = some dst) {x : D} (hr : (execOp a.eval o).run C.P w = .ok (.value v) w)
    (hx : Ok C.P w F (ap Γ [(tk dst, x)] [tk dst] []) (updF σ (tk dst) p) (updF val (tk dst) v) loc (updF S (tk dst) Set.none) (tk dst) x)
    (hK : Cont C (ap Γ [(tk dst, x)] [tk dst] []) (updF σ (tk dst) p) a K) : o.wp C.P a w K Q :=
  wp_val hdst hr (hK _ _ ⟨_, _, _, _, h.set1 ht hx⟩ rfl)
theorem wp_plain (h : RelX C Γ σ val loc S F a.tmps w) (ht : dst < C.nt) (hdst : o.dst = some dst) (hr : (execOp a.eval o).run C.P w = .ok (.value v) w)
    (hx : ∃ cs, Fits d v cs ∧ R C.P w F d cs p Set.none)
    (hK : Cont C (ap Γ [(tk dst, .v d)] [tk dst] []) (updF σ (tk dst) p) a K) : o.wp C.P a w K Q := by
  obtain ⟨cs, h1, h2⟩ := hx
  exact wp_set1 (x := .v d) (p := p) h ht hdst hr ⟨cs, by rw [updF_same]; exact h1, by rw [updF_same, updF_same]; exact h2⟩ hK
theorem wp_copy (h : RelX C Γ σ val loc S F a.tmps w) (ht : dst < C.nt) (hdst : o.dst = some dst) {k : Nat} {x : D} (hr : (execOp a.eval o).run C.P w = .ok (.value (val k)) w)
    (hx : Ok C.P w F Γ σ val loc S k x) (h1 : tk dst ∉ x.roots) (h2 : tk dst ∉ x.deep) (h3 : tk dst ∉ x.weak) (h4 : x.owns = false)
    (hK : Cont C (ap Γ [(tk dst, x)] [tk dst] []) (updF σ (tk dst) (σ k)) a K) : o.wp C.P a w K Q :=
  wp_val hdst hr (hK _ _ ⟨_, _, _, _, h.copy ht hx h1 h2 h3 h4⟩ rfl)

theorem ap_root {U : List (Nat × D)} {kw so : List Nat} {o : Nat} (hl : look U o = none) (hroot : (Γ o).isRoot = true) : ap Γ U kw so o = Γ o := by
  unfold ap
  rw [hl]
  cases hΓ : Γ o <;> simp [hΓ, D.isRoot] at hroot <;> simp [D.roots, D.deep, D.weak]

theorem cMove_ok {I : Interp} {σ' : Nat → PV} {x : Operand} {r : SR} (h : RelX C Γ σ val loc S F a.tmps w) (ht : dst < C.nt) (hdst : o.dst = some dst) (hop : o.op = .move x ∨ o.op = .assign x ∨ (o.op = .nilCheck x ∧ ∃ ad, a.eval x = .pointer (some ad)))
    (hc : cMove Γ dst x = some r) (hrun : r.run I σ = some σ') (hK : Cont C (apS Γ r) σ' a K) : o.wp C.P a w K Q := by
  have hr : (execOp a.eval o).run C.P w = .ok (.value (evalOp a.tmps x)) w := by
    rw [← evalOp_eq]
    rcases hop with e | e | ⟨e, ad, e2⟩
    · simp [execOp, e]
    · simp [execOp, e]
    · simp [execOp, e, e2]
  unfold cMove at hc
  split at hc
  · rename_i c
    split at hc
    · rename_i d0 px hcon
      simp only [Option.some.injEq] at hc
      subst hc
      rw [mk1_run0 hrun] at hK
      obtain ⟨h1, h2⟩ := constOf_R (P := C.P) (w := w) (F := F) (σ := σ) (T := Set.none) hcon []
      exact wp_plain h ht hdst hr ⟨_, h1, h2⟩ hK
    · simp only [Option.some.injEq] at hc
      subst hc
      rw [mk1_run0 hrun] at hK
      exact wp_set1 (x := .none) (p := .unit) h ht hdst hr trivial hK
  · split at hc
    · simp only [Option.some.injEq] at hc
      subst hc
      rw [mk1_run0 hrun] at hK
      exact wp_set1 (x := .clo _ []) (p := .unit) h ht hdst hr ⟨by rw [updF_same]; rfl, by rw [updF_same]⟩ hK
    · cases hc
  · rename_i t
    have hv : evalOp a.tmps (.tmp t) = val (tk t) := (h.tm t).symm
    rw [hv] at hr
    have hok := h.ok (tk t)
    have keep : ∀ {y : D}, Γ (tk t) = y → tk dst ∉ y.roots → tk dst ∉ y.deep → tk dst ∉ y.weak → y.owns = false → r = mk1 dst y (.k (tk t)) → o.wp C.P a w K Q := by
      intro y hy h1 h2 h3 h4 hr'
      subst hr'
      rw [mk1_run0 hrun] at hK
      rw [hy] at hok
      exact wp_copy h ht hdst hr hok h1 h2 h3 h4 hK
    cases hΓ : Γ (tk t) <;> simp only [hΓ, reduceCtorEq] at hc
    case v d0 =>
      split at hc
      · rename_i hp
        simp only [Option.some.injEq] at hc
        subst hc
        rw [mk1_run0 hrun] at hK
        rw [hΓ] at hok
        obtain ⟨cs, hf, hR⟩ := hok
        exact wp_plain h ht hdst hr ⟨cs, hf, hR.ofPlain hp _⟩ hK
      · split at hc
        · cases hc
        · rename_i hne
          simp only [Option.some.injEq] at hc
          subst hc
          rw [mk1_run0 hrun] at hK
          rw [hΓ] at hok
          obtain ⟨cs, hf, hR⟩ := hok
          have hne : tk t ≠ tk dst := fun e => hne (beq_iff.2 (tk_inj e))
          refine wp_set1 (x := .view (tk t) ⟨[], none⟩) (p := .unit) h ht hdst hr ⟨⟨d0, cs, none, d0, cs, none, .inl ⟨?_, by rw [updF_ne _ _ hne]; exact hf, rfl⟩, ?_, by rw [updF_same]; exact hf⟩, fun _ => by rw [updF_same]⟩ hK
          · rw [ap_root (by rw [look_cons, look_nil, if_neg hne]) (by rw [hΓ]; rfl), hΓ]
          · unfold Sub
            simp only [SD.get, SD.off, List.drop_zero, Option.map_none, true_and, and_true]
            rw [← hR.len, List.take_length]
    case view o' π =>
      split at hc
      · cases hc
      · rename_i hne
        have hne : o' ≠ tk dst := fun e => hne (beq_iff.2 e)
        simp only [Option.some.injEq] at hc
        exact keep hΓ (by simp [D.roots, Ne.symm hne]) (by simp only [D.deep]; split <;> simp [Ne.symm hne]) (by simp [D.weak]) rfl hc.symm
    case tr o' π =>
      split at hc
      · cases hc
      · rename_i hne
        have hne : o' ≠ tk dst := fun e => hne (beq_iff.2 e)
        simp only [Option.some.injEq] at hc
        exact keep hΓ (by simp [D.roots, Ne.symm hne]) (by simp [D.deep]) (by simp [D.weak]) rfl hc.symm
    case sl o' π =>
      split at hc
      · cases hc
      · rename_i hne
        have hne : o' ≠ tk dst := fun e => hne (beq_iff.2 e)
        simp only [Option.some.injEq] at hc
        exact keep hΓ (by simp [D.roots, Ne.symm hne]) (by simp [D.deep]) (by simp [D.weak]) rfl hc.symm
    case ptr o' π =>
      split at hc
      · cases hc
      · rename_i hne
        have hne : o' ≠ tk dst := fun e => hne (beq_iff.2 e)
        simp only [Option.some.injEq] at hc
        exact keep hΓ (by simp [D.roots, Ne.symm hne]) (by simp only [D.deep]; split <;> simp [Ne.symm hne]) (by simp [D.weak]) rfl hc.symm
    case bp o' =>
      split at hc
      · cases hc
      · rename_i hne
        have hne : o' ≠ tk dst := fun e => hne (beq_iff.2 e)
        simp only [Option.some.injEq] at hc
        exact keep hΓ (by simp [D.roots]) (by simp [D.deep]) (by simp [D.weak, Ne.symm hne]) rfl hc.symm
    case cptr o' r' ty π =>
      split at hc
      · cases hc
      · rename_i hne
        simp only [Bool.or_eq_true, not_or] at hne
        have h1 : o' ≠ tk dst := fun e => hne.1 (beq_iff.2 e)
        have h2 : r' ≠ tk dst := fun e => hne.2 (beq_iff.2 e)
        simp only [Option.some.injEq] at hc
        exact keep hΓ (by simp [D.roots, Ne.symm h2]) (by simp [D.deep, Ne.symm h1]) (by simp [D.weak, Ne.symm h1]) rfl hc.symm
    case rp d0 =>
      simp only [Option.some.injEq] at hc
      exact keep hΓ (by simp [D.roots]) (by simp [D.deep]) (by simp [D.weak]) rfl hc.symm
    case clo f ks =>
      split at hc
      · cases hc
      · rename_i hne
        simp only [Option.some.injEq] at hc
        refine keep hΓ (by simp [D.roots]) (by simp [D.deep]) (fun hm => hne ?_) rfl hc.symm
        simp only [D.weak] at hm
        exact List.any_eq_true.2 ⟨_, hm, by simp⟩
    case tup ks =>
      split at hc
      · cases hc
      · rename_i hne
        simp only [Option.some.injEq] at hc
        refine keep hΓ (by simp [D.roots]) (by simp [D.deep]) (fun hm => hne ?_) rfl hc.symm
        simp only [D.weak] at hm
        exact List.any_eq_true.2 ⟨_, hm, by simp⟩
  · cases hc
end
end
end Go.Rsc
