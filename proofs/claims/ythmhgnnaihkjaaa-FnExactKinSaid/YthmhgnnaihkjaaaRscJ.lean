/- Places of fields and elements. No conditions. -/
import Derived.Test.YthmhgnnaihkjaaaRscI
namespace Go.Rsc
open Go.RowKit
set_option linter.unusedVariables false
set_option linter.unusedSimpArgs false

theorem SD.get_snoc (f : Nat) : ∀ (π : List Nat) (d : SD), d.get (π ++ [f]) = (d.get π).bind fun x => x.nth f
  | [], d => by simp only [List.nil_append, SD.get]; simp [SD.get]
  | i :: π, d => by
    simp only [List.cons_append, SD.get]
    cases d.nth i with
    | none => rfl
    | some y => simpa using SD.get_snoc f π y
theorem SD.off_snoc (f : Nat) : ∀ (π : List Nat) (d : SD) {x y : SD}, d.get π = some x → x.nth f = some y → d.off (π ++ [f]) = d.off π + x.offN f
  | [], d, x, y, h, hy => by
    simp only [SD.get, Option.some.injEq] at h
    subst h
    simp [SD.off, hy]
  | i :: π, d, x, y, h, hy => by
    simp only [SD.get] at h
    obtain ⟨z, hz, h⟩ := Option.bind_eq_some_iff.1 h
    simp [List.cons_append, SD.off, hz, SD.off_snoc f π z h hy, Nat.add_assoc]
theorem PV.get_snoc (f : Nat) : ∀ (π : List Nat) (p : PV), p.get (π ++ [f]) = (p.get π).fld f
  | [], p => rfl
  | i :: π, p => by simp only [List.cons_append, PV.get]; exact PV.get_snoc f π _

def Pth.snoc (π : Pth) (f : Nat) : Pth := match π.post with
  | none => ⟨π.pre ++ [f], none⟩
  | some φ => ⟨π.pre, some (φ ++ [f])⟩

section
variable {P : Program} {w w' : World} {F F' : Set} {Γ : Nat → D} {σ : Nat → PV} {val : Nat → Value} {loc : Nat → Nat} {S : Nat → Set} {C : Cx} {tmps : Array Value}
variable {d d' x y : SD} {cs c : List Value} {p : PV} {T T' : Set}

theorem Sub.field {base : Option Nat} {π : Pth} {j f : Nat} {ad : Option (Nat × Nat)} (h : Sub P w T d cs base π j x c ad) (hy : x.nth f = some y) :
    ∃ c', Sub P w T d cs base (π.snoc f) j y c' (ad.map fun q => (q.1, q.2 + x.offN f)) := by
  unfold Sub at h
  unfold Pth.snoc Sub
  cases hp : π.post with
  | none =>
    simp only [hp] at h ⊢
    obtain ⟨h1, h2, rfl⟩ := h
    refine ⟨_, by rw [SD.get_snoc, h1]; exact hy, rfl, ?_⟩
    rw [SD.off_snoc f π.pre d h1 hy]
    cases base <;> rfl
  | some φ =>
    simp only [hp] at h ⊢
    obtain ⟨e, m, b, n, cap, arr, h1, h2, h3, h4, h5, h6, h7, rfl⟩ := h
    refine ⟨_, e, m, b, n, cap, arr, h1, h2, h3, h4, h5, by rw [SD.get_snoc, h6]; exact hy, rfl, ?_⟩
    rw [SD.off_snoc f φ _ h6 hy]
    simp [Nat.add_assoc]

theorem fieldOk_spec {t : TypeId} {f : Nat} (h : fieldOk P t f d = true) : ∃ fs fd y, P.underlying t = some (.struct fs) ∧ fs[f]? = some fd ∧ d.nth f = some y ∧ fd.offset = d.offN f ∧ tyOk P fd.type y = true ∧ y.sz ≠ 0 := by
  unfold fieldOk at h
  split at h
  · rename_i fs hu
    split at h
    · rename_i fd y h1 h2
      simp only [Bool.and_eq_true, Bool.not_eq_true', beq_iff, beq_false] at h
      exact ⟨fs, fd, y, hu, h1, h2, h.1.1, h.1.2, h.2⟩
    · cases h
  · cases h

theorem run_fieldAt {t : TypeId} {f : Nat} (h : fieldOk P t f d = true) (hy : d.nth f = some y) (ad : Addr) : (Instr.fieldAt t (.pointer (some ad)) f).run P w = .ok (.pointer (some (ad.add (d.offN f)))) w := by
  obtain ⟨fs, fd, y', hu, hf, hy', ho, ht, hz⟩ := fieldOk_spec h
  obtain ⟨⟨z, hz1, _⟩, hsz⟩ := tyOk_spec ht
  simp only [Instr.fieldAt, Sem.run_bind, run_underlying hu, Result.andThen_ok, hf, Instr.sureAddr, Sem.run_pure, fieldPlace, run_sizeOf' hz1, hsz, if_neg hz, ho]

theorem run_part {t : TypeId} {pre c post : List Value} {v : Value} (ht : tyOk P t y = true) (hl : c.length = y.sz) (hf : Fits y v c) :
    (part t (pre ++ c ++ post).toArray pre.length).run P w = .ok v w := by
  obtain ⟨⟨x, hu, hx⟩, hsz⟩ := tyOk_spec ht
  unfold part isAgg
  rcases hx with ⟨⟨fs, rfl⟩, ha⟩ | ⟨h1, h2, ha⟩
  · rcases hf with ⟨_, rfl⟩ | ⟨hb, _⟩
    · simp only [Sem.run_bind, Sem.run_pure, Result.andThen_ok, run_underlying hu, run_sizeOf' hu, hsz, if_true, ← hl]
      congr 2
      apply Array.ext'
      simp [List.extract_eq_take_drop]
    · rw [ha] at hb; cases hb
  · rcases hf with ⟨hb, _⟩ | ⟨_, rfl⟩
    · rw [ha] at hb; cases hb
    · have e : (pre ++ [v] ++ post).toArray[pre.length]? = some v := by simp
      simp only [Sem.run_bind, Sem.run_pure, Result.andThen_ok, run_underlying hu]
      cases x <;> first | (exact absurd rfl (h1 _)) | (exact absurd rfl (h2 _ _)) | simp only [Sem.run_pure, Result.andThen_ok, Bool.false_eq_true, if_false, e]

/-- A field of a value. -/
theorem run_field {t : TypeId} {f : Nat} (h : fieldOk P t f d = true) (hy : d.nth f = some y) (hd : hasDead y = false) (hR : R P w F d cs p T) :
    ∃ pre c post S1, cs = pre ++ c ++ post ∧ pre.length = d.offN f ∧ R P w F y c (p.fld f) S1 ∧ (Instr.field t (.agg cs.toArray) f).run P w = .ok (mkV y c) w := by
  obtain ⟨fs, fd, y', hu, hf, hy', ho, ht, hz⟩ := fieldOk_spec h
  rw [hy] at hy'
  simp only [Option.some.injEq] at hy'
  subst hy'
  obtain ⟨pre, c, post, S1, rfl, hl, hR1, _, _⟩ := hR.nth hy
  refine ⟨pre, c, post, S1, rfl, hl, hR1, ?_⟩
  have e : (part fd.type (pre ++ c ++ post).toArray fd.offset).run P w = .ok (mkV y c) w := by
    rw [ho, ← hl]; exact run_part ht hR1.len (mkV_fits hR1 hd)
  simp only [List.append_assoc] at e
  simp [Instr.field, run_underlying hu, hf, asAgg, e]

theorem nth_isAgg {f : Nat} (h : d.nth f = some y) : d.isAgg = true := by
  cases d with
  | sc => rfl
  | _ => simp [SD.nth] at h
theorem Fits.agg {v : Value} (h : Fits d v cs) (ha : d.isAgg = true) : v = .agg cs.toArray := by
  rcases h with ⟨_, h⟩ | ⟨h, _⟩
  · exact h
  · rw [ha] at h; cases h

section
variable {a : Act} {o : Oper} {K : Act → World → Prop} {Q : Exit → Act → World → Prop} {dst : Nat} {v : Value} {I : Interp} {σ' : Nat → PV} {r : SR}

theorem rp_set (h : RelX C Γ σ val loc S F a.tmps w) (ht : dst < C.nt) (hdst : o.dst = some dst) {ad : Addr} {q : PV}
    (hr : (execOp a.eval o).run C.P w = .ok (.value (.pointer (some ad))) w) (hl : c.length = x.sz) (hc : CellsAt w F (some ad) 0 c) (hR : R C.P w F x c q Set.none)
    (hK : Cont C (ap Γ [(tk dst, .rp x)] [tk dst] []) (updF σ (tk dst) q) a K) : o.wp C.P a w K Q :=
  wp_set1 (x := .rp x) (p := q) h ht hdst hr ⟨ad, c, by rw [updF_same], hl, hc, by rw [updF_same]; exact hR⟩ hK

theorem cFieldAddr_ok {t : TypeId} {ax : Operand} {f : Nat} (h : RelX C Γ σ val loc S F a.tmps w) (ht : dst < C.nt) (hdst : o.dst = some dst) (hop : o.op = .fieldAddr t ax f)
    (hc : cFieldAddr C.P Γ dst t ax f = some r) (hrun : r.run I σ = some σ') (hK : Cont C (apS Γ r) σ' a K) : o.wp C.P a w K Q := by
  have hex : ∀ {v : Value}, (Instr.fieldAt t (a.eval ax) f).run C.P w = .ok v w → (execOp a.eval o).run C.P w = .ok (.value v) w := fun {v} e2 => by
    simp [execOp, hop, e2]
  unfold cFieldAddr at hc
  split at hc
  · rename_i p
    have hev : a.eval (.tmp p) = val (tk p) := (h.tm p).symm
    rw [hev] at hex
    split at hc
    · rename_i k r' ty π hcp
      split at hc
      · rename_i d0 hsh
        split at hc
        · rename_i hcond
          simp only [Bool.and_eq_true, Bool.not_eq_true', beq_false] at hcond
          obtain ⟨⟨hok, hne1⟩, hne2⟩ := hcond
          obtain ⟨d, cs, base, arr, h1, h2, h3, h4, h5, h6, h7⟩ := copyPlace_ok h hcp hsh
          obtain ⟨fs, fd, y, hu, hf, hy, ho, hty, hz⟩ := fieldOk_spec hok
          simp only [Option.some.injEq] at hc
          subst hc
          rw [mk1_run0 hrun] at hK
          have hr := run_fieldAt (P := C.P) (w := w) hok hy ⟨loc k, d.off π, none⟩
          rw [← h6] at hr
          refine wp_set1 (x := .cptr k r' ty (π ++ [f])) (p := .unit) h ht hdst (hex hr) ⟨⟨d, cs, base, arr, y, h1.set1 hne2 _ _, h2, by rw [updF_ne _ _ hne1]; exact h3, h4, by rw [SD.get_snoc, h5]; exact hy, ?_⟩, by rw [updF_same]⟩ hK
          rw [updF_same, add_off, SD.off_snoc f π d h5 hy]
        · cases hc
      · cases hc
    · split at hc
      · rename_i d0 hΓ
        have hok := h.ok (tk p)
        rw [hΓ] at hok
        obtain ⟨ad, cs, h1, h2, h3, h4⟩ := hok
        split at hc
        · rename_i y hy
          split at hc
          · rename_i hfo
            simp only [Option.some.injEq] at hc
            subst hc
            rw [mk1_run0 hrun] at hK
            obtain ⟨pre, c1, post, S1, rfl, hl, hR1, hS1, _⟩ := h4.nth hy
            have hr := run_fieldAt (P := C.P) (w := w) hfo hy ad
            rw [← h1] at hr
            refine rp_set h ht hdst (hex hr) hR1.len (fun i u hu => ?_) (hR1.wide hS1) hK
            have hu' : (pre ++ c1 ++ post)[d0.offN f + i]? = some u := by
              rw [← hl, List.append_assoc, List.getElem?_append_right (by omega), Nat.add_sub_cancel_left, List.getElem?_append_left (List.getElem?_eq_some_iff.1 hu).1]
              exact hu
            obtain ⟨ad', e, hF, hcell⟩ := h3 _ _ hu'
            simp only [Option.some.injEq] at e
            subst e
            refine ⟨_, rfl, by have : (ad.add (d0.offN f)).block = ad.block := by (unfold Addr.add; split <;> rfl)
                               rw [this]; exact hF, ?_⟩
            rw [add_two]
            simpa using hcell
          · cases hc
        · cases hc
      · split at hc
        · rename_i k π d0 hpl
          split at hc
          · cases hc
          · rename_i hcond
            simp only [Bool.or_eq_true, Bool.not_eq_true', not_or, Bool.not_eq_false] at hcond
            obtain ⟨hfo, hne⟩ := hcond
            have hne : k ≠ tk dst := fun e => hne (beq_iff.2 e)
            obtain ⟨d, cs, base, c, b, off, h1, h2, h3, h4⟩ := placeOf_ok h hpl
            obtain ⟨fs, fd, y, hu, hf, hy, ho, hty, hz⟩ := fieldOk_spec hfo
            obtain ⟨c', hs⟩ := h2.field hy
            have hr := run_fieldAt (P := C.P) (w := w) hfo hy ⟨b, off, none⟩
            rw [← h3, add_off] at hr
            unfold Pth.snoc at hs
            split at hc
            · rename_i hpo
              simp only [hpo] at hs
              simp only [Option.some.injEq] at hc
              subst hc
              rw [mk1_run0 hrun] at hK
              exact ptr_set h ht hdst (hex hr) h1 hs (fun _ => h4 hpo) hne hK
            · rename_i φ hpo
              simp only [hpo] at hs
              simp only [Option.some.injEq] at hc
              subst hc
              rw [mk1_run0 hrun] at hK
              exact ptr_set h ht hdst (hex hr) h1 hs (fun e => by cases e) hne hK
        · cases hc
  · cases hc

theorem cField_ok {t : TypeId} {ax : Operand} {f : Nat} (h : RelX C Γ σ val loc S F a.tmps w) (ht : dst < C.nt) (hdst : o.dst = some dst) (hop : o.op = .field t ax f)
    (hc : cField C.P Γ dst t ax f = some r) (hrun : r.run I σ = some σ') (hK : Cont C (apS Γ r) σ' a K) : o.wp C.P a w K Q := by
  have hex : ∀ {v : Value}, (Instr.field t (a.eval ax) f).run C.P w = .ok v w → (execOp a.eval o).run C.P w = .ok (.value v) w := fun {v} e2 => by
    simp [execOp, hop, e2]
  unfold cField at hc
  split at hc
  · rename_i p
    have hev : a.eval (.tmp p) = val (tk p) := (h.tm p).symm
    rw [hev] at hex
    have hok := h.ok (tk p)
    split at hc
    · rename_i d0 hΓ
      rw [hΓ] at hok
      obtain ⟨cs, hf, hR⟩ := hok
      split at hc
      · rename_i y hy
        split at hc
        · cases hc
        · rename_i hcond
          simp only [Bool.or_eq_true, Bool.not_eq_true', not_or, Bool.not_eq_false, Bool.not_eq_true] at hcond
          obtain ⟨hfo, hdead⟩ := hcond
          obtain ⟨pre, c, post, S1, e, hl, hR1, hr⟩ := run_field hfo hy hdead hR
          rw [← hf.agg (nth_isAgg hy)] at hr
          have hfit := mkV_fits hR1 hdead
          split at hc
          · rename_i hp
            simp only [Option.some.injEq] at hc
            subst hc
            rw [mk1_run0 hrun] at hK
            exact wp_plain h ht hdst (hex hr) ⟨c, hfit, hR1.ofPlain hp _⟩ hK
          · split at hc
            · cases hc
            · rename_i hne
              have hne : tk p ≠ tk dst := fun e => hne (beq_iff.2 (tk_inj e))
              simp only [Option.some.injEq] at hc
              subst hc
              rw [mk1_run0 hrun] at hK
              refine view_set h ht hdst (hex hr) (d := d0) (cs := cs) (base := none) (x := y) (c := c) (ad := none) (.inl ⟨hΓ, hf, rfl⟩) ?_ hfit (fun _ => rfl) hne hK
              unfold Sub
              simp only [SD.get, hy, Option.bind_some, SD.off, Option.map_none, true_and, and_true, Nat.add_zero]
              rw [e, take_drop_mid hl hR1.len]
      · cases hc
    · rename_i k π hΓ
      rw [hΓ] at hok
      obtain ⟨⟨d, cs, base, x, c, ad, h1, h2, h3⟩, h4⟩ := hok
      rw [h2.shape h1] at hc
      simp only at hc
      split at hc
      · rename_i y hy
        split at hc
        · cases hc
        · rename_i hcond
          simp only [Bool.or_eq_true, Bool.not_eq_true', not_or, Bool.not_eq_false, Bool.not_eq_true] at hcond
          obtain ⟨⟨hfo, hne⟩, hdead⟩ := hcond
          have hne : k ≠ tk dst := beq_false.1 hne
          split at hc
          · rename_i hpo
            obtain ⟨T0, hR, _⟩ := h.subR h1 h2
            obtain ⟨pre, c1, post, S1, e, hl, hR1, hr⟩ := run_field hfo hy hdead hR
            rw [← h3.agg (nth_isAgg hy)] at hr
            have hfit := mkV_fits hR1 hdead
            split at hc
            · rename_i hp
              simp only [Option.some.injEq] at hc
              subst hc
              rw [mk1_run0 hrun] at hK
              refine wp_plain h ht hdst (hex hr) ⟨c1, hfit, hR1.ofPlain hp _⟩ ?_
              have : (getAt (σ k) π (σ (tk p)).toInt.toNat).fld f = (PX.get (.k k) (π.pre ++ [f])).eval σ [] := by
                unfold getAt
                simp only [hpo, PX.eval, PV.get_snoc]
              rw [this]; exact hK
            · simp only [Option.some.injEq] at hc
              subst hc
              rw [mk1_run0 hrun] at hK
              obtain ⟨c', hs⟩ := h2.field hy
              unfold Pth.snoc at hs
              simp only [hpo] at hs
              have hj : Sub C.P w (S k) d cs base ⟨π.pre ++ [f], none⟩ (PV.unit.toInt.toNat) y c' (ad.map fun q => (q.1, q.2 + x.offN f)) := hs
              have hcc : c' = c1 := by
                unfold Sub at hs h2
                simp only [hpo] at hs h2
                rw [hs.2.1, SD.off_snoc f _ _ h2.1 hy, ← List.drop_drop]
                have e2 := h2.2.1
                rw [e] at e2
                have hcx : ∃ tl, cs.drop (d.off π.pre) = pre ++ c1 ++ post ++ tl := ⟨(cs.drop (d.off π.pre)).drop x.sz, by rw [e2, List.take_append_drop]⟩
                obtain ⟨tl, etl⟩ := hcx
                rw [etl]
                have : pre ++ c1 ++ post ++ tl = pre ++ c1 ++ (post ++ tl) := by simp
                rw [this, take_drop_mid hl hR1.len]
              subst hcc
              exact view_set h ht hdst (hex hr) h1 hj hfit (fun _ => rfl) hne hK
          · cases hc
      · cases hc
    · cases hc
  · cases hc
end
end
end Go.Rsc
