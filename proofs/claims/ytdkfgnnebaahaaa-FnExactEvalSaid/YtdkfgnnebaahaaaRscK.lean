/- Elements, lengths, parts of rows. No conditions. -/
import Derived.Test.YtdkfgnnebaahaaaRscJ
namespace Go.Rsc
open Go.RowKit
set_option linter.unusedVariables false
set_option linter.unusedSimpArgs false

section
variable {P : Program} {w w' : World} {F F' : Set} {Γ : Nat → D} {σ : Nat → PV} {val : Nat → Value} {loc : Nat → Nat} {S : Nat → Set} {C : Cx} {tmps : Array Value}
variable {d d' x y : SD} {cs c : List Value} {p : PV} {T T' : Set}

theorem run_indexAt {t e : TypeId} {z : TypeDesc} (hu : P.underlying t = some (.slice e)) (hz : P.underlying e = some z) {k : IntKind} {i : Int} {n cap : Nat} {ad : Addr} (h0 : 0 ≤ i) (h1 : i < n) :
    (Instr.indexAt t (.slice (some ad) n cap) (.int k i)).run P w = .ok (.pointer (some (ad.add (i.toNat * P.cellsOf e)))) w := by
  unfold Instr.indexAt
  simp [asIntOf, run_underlying hu, h0, h1, run_sizeOf' hz]

theorem el_und {m : Bool} {e : TypeId} (h : P.cellsOf e = (el P m e).sz) (h0 : P.cellsOf e ≠ 0) : ∃ i, P.info? e = some i := by
  cases hi : P.info? e with
  | some i => exact ⟨i, rfl⟩
  | none => exact absurd (by simp [Program.cellsOf, hi]) h0
theorem run_sizeOf'' {t : TypeId} (h : ∃ i, P.info? t = some i) (w : World) : (sizeOf t).run P w = .ok (P.cellsOf t) w := by
  obtain ⟨i, hi⟩ := h
  simp [sizeOf, typeInfo, hi, Program.cellsOf]
theorem run_indexAt' {t e : TypeId} (hu : P.underlying t = some (.slice e)) (hz : ∃ i, P.info? e = some i) {k : IntKind} {i : Int} {n cap : Nat} {ad : Addr} (h0 : 0 ≤ i) (h1 : i < n) :
    (Instr.indexAt t (.slice (some ad) n cap) (.int k i)).run P w = .ok (.pointer (some (ad.add (i.toNat * P.cellsOf e)))) w := by
  unfold Instr.indexAt
  simp [asIntOf, run_underlying hu, h0, h1, run_sizeOf'' hz]

theorem Fits.single {v : Value} (h : Fits d v cs) (ha : d.isAgg = false) : cs = [v] := by
  rcases h with ⟨h, _⟩ | ⟨_, h⟩
  · rw [ha] at h; cases h
  · exact h

/-- A view without an element: what is there. -/
theorem Sub.top {base : Option Nat} {π : List Nat} {j : Nat} {ad : Option (Nat × Nat)} (h : Sub P w T d cs base ⟨π, none⟩ j x c ad) : d.get π = some x ∧ c = (cs.drop (d.off π)).take x.sz ∧ ad = base.map fun b => (b, d.off π) := h

theorem R.ofOwn {e : TypeId} {m : Bool} {v : Value} (h : R P w F (.own e m) [v] p T) : ∃ ps, p = .list ps ∧ (v = .slice none 0 0 ∧ ps = [] ∨ ∃ b cap arr, v = .slice (some ⟨b, 0, none⟩) ps.length cap ∧ w.heap[b]? = some (.cells arr e (0, 0)) ∧ T b ∧ ps.length ≤ cap ∧ cap ≤ maxLen ∧ arr.size = cap * (el P m e).sz ∧ 0 < (el P m e).sz) := by
  cases h with
  | onil => exact ⟨[], rfl, .inl ⟨rfl, rfl⟩⟩
  | own _ _ b n cap arr ps _ Ss h1 h2 h3 h4 h5 h6 h7 h8 h9 h10 h11 =>
    subst h5
    exact ⟨ps, rfl, .inr ⟨b, cap, arr, rfl, h1, h7, h2, h3, h4, h6⟩⟩

section
variable {a : Act} {o : Oper} {K : Act → World → Prop} {Q : Exit → Act → World → Prop} {dst : Nat} {v : Value} {I : Interp} {σ' : Nat → PV} {r : SR}

theorem no_run {u : List (Nat × D)} {kw : List Nat} {st : List (Nat × PX)} (h : ({ chk := [.bool false], main := { upd := u, kw := kw, sets := st } } : SR).run I σ = some σ') : False := by
  simp [SR.run, PX.eval, PV.toBool] at h

theorem nl_run {j e : Nat} (h : (nlAt P j dst e).run I σ = some σ') : False := by
  unfold nlAt at h
  split at h <;> exact no_run h
theorem cIndexAddr_ok {jj : Nat} {t : TypeId} {ax ai : Operand} (h : RelX C Γ σ val loc S F a.tmps w) (ht : dst < C.nt) (hdst : o.dst = some dst) (hop : o.op = .indexAddr t ax ai)
    (hc : cIndexAddr jj C.P Γ dst t ax ai = some r) (hrun : r.run I σ = some σ') (hK : Cont C (apS Γ r) σ' a K) : o.wp C.P a w K Q := by
  unfold cIndexAddr at hc
  split at hc
  · rename_i e k pi hu hi
    obtain ⟨n, ei, ei'⟩ := intOf_ok h hi []
    have hex : ∀ {v : Value}, (Instr.indexAt t (evalOp a.tmps ax) (.int k n)).run C.P w = .ok v w → (execOp a.eval o).run C.P w = .ok (.value v) w := fun {v} e2 => by
      rw [← ei] at e2
      simp [execOp, hop, evalOp_eq, e2]
    split at hc
    · simp only [Option.some.injEq] at hc; subst hc; exact (nl_run hrun).elim
    · rename_i q
      have hev : evalOp a.tmps (.tmp q) = val (tk q) := (h.tm q).symm
      rw [hev] at hex
      have hok := h.ok (tk q)
      have chkOf : ∀ {x : PX} {m : Nat}, x.eval σ [] = .int m → (inRange pi x).all (fun c => (c.eval σ []).toBool) = true → 0 ≤ n ∧ n < m := by
        intro x m hx hchk
        simp only [inRange, List.all_cons, List.all_nil, Bool.and_true, Bool.and_eq_true, PX.eval, hx, ei', PV.toInt, PV.toBool, cmpI, ltI, leI, gtI, geI, eqI, neI, decide_eq_true_eq] at hchk
        exact ⟨hchk.1, hchk.2⟩
      have hj : (pi.eval σ []).toInt.toNat = n.toNat := by rw [ei']; rfl
      split at hc
      · simp only [Option.some.injEq] at hc; subst hc; exact (nl_run hrun).elim
      · rename_i e' hΓ
        rw [hΓ] at hok
        obtain ⟨cs, hf, hR⟩ := hok
        split at hc
        · rename_i hcond
          simp only [Bool.and_eq_true, Bool.not_eq_true', beq_iff, beq_false] at hcond
          obtain ⟨⟨rfl, hcell⟩, hnz⟩ := hcond
          simp only [Option.some.injEq] at hc
          subst hc
          obtain ⟨hchk, rfl⟩ := mk1_run hrun
          have hcs := hf.single rfl
          generalize hσ : σ (tk q) = pq at hR
          subst hcs
          generalize hvv : val (tk q) = vv at hR
          rw [hvv] at hex
          cases hR with
          | bor _ A m cap ps _ css g1 g2 g3 g4 g5 =>
            obtain ⟨h0, h1⟩ := chkOf (x := .len (.k (tk q))) (m := m) (by simp [PX.eval, hσ, PV.toList, g1]) hchk
            have hlt : n.toNat < m := by omega
            have hne : ∃ ad, A = some ad := by
              have hl := g3 n.toNat hlt
              have : 0 < (css n.toNat).length := by rw [hl, ← hcell]; omega
              obtain ⟨ad, e, _⟩ := g4 n.toNat hlt 0 _ (List.getElem?_eq_getElem this)
              exact ⟨ad, e⟩
            obtain ⟨ad, rfl⟩ := hne
            refine rp_set h ht hdst (hex (run_indexAt' hu (el_und (m := false) hcell hnz) h0 h1)) (c := css n.toNat) (g3 _ hlt) (fun i u hu' => ?_) (x := sdOf C.P e) ?_ hK
            · obtain ⟨ad', e2, hF, hcl⟩ := g4 n.toNat hlt i u hu'
              simp only [Option.some.injEq] at e2
              subst e2
              refine ⟨_, rfl, by have : (ad.add (n.toNat * C.P.cellsOf e)).block = ad.block := by (unfold Addr.add; split <;> rfl)
                                 rw [this]; exact hF, ?_⟩
              rw [add_two, hcell, Nat.zero_add]
              exact hcl
            · have : (PX.at (.k (tk q)) pi).eval σ [] = ps.getD n.toNat .unit := by simp [PX.eval, hσ, PV.toList, ei', PV.toInt]
              rw [this]
              exact g5 _ _ (getD_some (by omega) _)
        · cases hc
      · rename_i e' m hΓ
        rw [hΓ] at hok
        obtain ⟨cs, hf, hR⟩ := hok
        split at hc
        · rename_i hcond
          simp only [Bool.and_eq_true, Bool.not_eq_true', beq_iff, beq_false] at hcond
          obtain ⟨⟨rfl, hcell⟩, hne⟩ := hcond
          simp only [Option.some.injEq] at hc
          subst hc
          obtain ⟨hchk, rfl⟩ := mk1_run hrun
          have hcs := hf.single rfl
          subst hcs
          obtain ⟨ps, hσ, hv | ⟨b, cap, arr, hv, g1, g2, g3, g4, g5, g6⟩⟩ := R.ofOwn hR
          · obtain ⟨h0, h1⟩ := chkOf (x := .len (.k (tk q))) (m := 0) (by simp [PX.eval, hσ, PV.toList, hv.2]) hchk
            omega
          · obtain ⟨h0, h1⟩ := chkOf (x := .len (.k (tk q))) (m := ps.length) (by simp [PX.eval, hσ, PV.toList]) hchk
            rw [hv] at hex
            have hr := hex (run_indexAt' hu (el_und hcell (by omega)) h0 h1)
            rw [add_zero_off] at hr
            refine ptr_set h ht hdst hr (k := tk q) (π := ⟨[], some []⟩) (d := .own e m) (cs := [val (tk q)]) (base := none) (x := el C.P m e) (c := ((elemAt arr.toList (el C.P m e).sz n.toNat).drop ((el C.P m e).off [])).take (el C.P m e).sz) (.inl ⟨hΓ, hf, rfl⟩) ?_ (fun e => by cases e) (fun e => hne (tk_inj e)) hK
            rw [hj]
            exact ⟨e, m, b, ps.length, cap, arr, rfl, by rw [hv]; rfl, by omega, g2, g1, rfl, rfl, by rw [hcell]; rfl⟩
        · cases hc
      · rename_i k' π hΓ
        rw [hΓ] at hok
        obtain ⟨⟨d, cs, base, x, c, ad, h1, h2, h3⟩, h4⟩ := hok
        split at hc
        · cases hc
        · rename_i hcond
          simp only [Bool.or_eq_true, not_or, Bool.not_eq_true, Option.isSome_eq_false_iff, Option.isNone_iff_eq_none] at hcond
          obtain ⟨hpo, hne⟩ := hcond
          have hne : k' ≠ tk dst := beq_false.1 hne
          cases π with
          | mk π post =>
          simp only at hpo
          subst hpo
          obtain ⟨t1, t2, t3⟩ := h2.top
          rw [h2.shape h1] at hc
          cases x <;> simp only [reduceCtorEq] at hc
          · simp only [Option.some.injEq] at hc; subst hc; exact (nl_run hrun).elim
          · rename_i e' m
            split at hc
            · rename_i hcond
              simp only [Bool.and_eq_true, Bool.not_eq_true', beq_iff, beq_false] at hcond
              obtain ⟨rfl, hcell⟩ := hcond
              simp only [Option.some.injEq] at hc
              subst hc
              obtain ⟨hchk, rfl⟩ := mk1_run hrun
              have hcs := h3.single rfl
              obtain ⟨T0, hR, hT0⟩ := h.subR h1 h2
              rw [hcs] at hR
              have hga : getAt (σ k') ⟨π, none⟩ (σ (tk q)).toInt.toNat = (σ k').get π := rfl
              rw [hga] at hR
              obtain ⟨ps, hσ, hv | ⟨b, cap, arr, hv, g1, g2, g3, g4, g5, g6⟩⟩ := R.ofOwn hR
              · obtain ⟨h0, h1⟩ := chkOf (x := .len (.get (.k k') π)) (m := 0) (by simp [PX.eval, hσ, PV.toList, hv.2]) hchk
                omega
              · obtain ⟨h0, h1'⟩ := chkOf (x := .len (.get (.k k') π)) (m := ps.length) (by simp [PX.eval, hσ, PV.toList]) hchk
                rw [hv] at hex
                have hr := hex (run_indexAt' hu (el_und hcell (by omega)) h0 h1')
                rw [add_zero_off] at hr
                refine ptr_set h ht hdst hr (k := k') (π := ⟨π, some []⟩) (x := el C.P m e) (c := ((elemAt arr.toList (el C.P m e).sz n.toNat).drop ((el C.P m e).off [])).take (el C.P m e).sz) h1 ?_ (fun e => by cases e) hne hK
                rw [hj]
                exact ⟨e, m, b, ps.length, cap, arr, t1, by rw [← hv, ← hcs, t2]; rfl, by omega, hT0 _ g2, g1, rfl, rfl, by rw [hcell]; rfl⟩
            · cases hc
      · cases hc
    · cases hc
  · cases hc
end
end
end Go.Rsc
