/- Places of fields and elements. No conditions. -/
import Derived.Test.YtdkfgnnebaahaaaRscI
namespace Go.Rsc
open Go.RowKit
set_option linter.unusedVariables false
set_option linter.unusedSimpArgs false

theorem SD.get_snoc (f : Nat) : ∀ (π : List Nat) (d : SD), d.get (π ++ [f]) = (d.get π).bind fun x => x.nth f
  | [], d => by simp only [List.nil_append, SD.get]; simp [SD.get]
  | i :: π, d => by
    simp only [List.cons_append, SD.get]
    cases d.nth i with
    | none => rfl
    | some y => simpa using SD.get_snoc f π y
theorem SD.off_snoc (f : Nat) : ∀ (π : List Nat) (d : SD) {x y : SD}, d.get π = some x → x.nth f = some y → d.off (π ++ [f]) = d.off π + x.offN f
  | [], d, x, y, h, hy => by
    simp only [SD.get, Option.some.injEq] at h
    subst h
    simp [SD.off, hy]
  | i :: π, d, x, y, h, hy => by
    simp only [SD.get] at h
    obtain ⟨z, hz, h⟩ := Option.bind_eq_some_iff.1 h
    simp [List.cons_append, SD.off, hz, SD.off_snoc f π z h hy, Nat.add_assoc]
theorem PV.get_snoc (f : Nat) : ∀ (π : List Nat) (p : PV), p.get (π ++ [f]) = (p.get π).fld f
  | [], p => rfl
  | i :: π, p => by simp only [List.cons_append, PV.get]; exact PV.get_snoc f π _

def Pth.snoc (π : Pth) (f : Nat) : Pth := match π.post with
  | none => ⟨π.pre ++ [f], none⟩
  | some φ => ⟨π.pre, some (φ ++ [f])⟩

section
variable {P : Program} {w w' : World} {F F' : Set} {Γ : Nat → D} {σ : Nat → PV} {val : Nat → Value} {loc : Nat → Nat} {S : Nat → Set} {C : Cx} {tmps : Array Value}
variable {d d' x y : SD} {cs c : List Value} {p : PV} {T T' : Set}

theorem Sub.field {base : Option Nat} {π : Pth} {j f : Nat} {ad : Option (Nat × Nat)} (h : Sub P w T d cs base π j x c ad) (hy : x.nth f = some y) :
    ∃ c', Sub P w T d cs base (π.snoc f) j y c' (ad.map fun q => (q.1, q.2 + x.offN f)) := by
  unfold Sub at h
  unfold Pth.snoc Sub
  cases hp : π.post with
  | none =>
    simp only [hp] at h ⊢
    obtain ⟨h1, h2, rfl⟩ := h
    refine ⟨_, by rw [SD.get_snoc, h1]; exact hy, rfl, ?_⟩
    rw [SD.off_snoc f π.pre d h1 hy]
    cases base <;> rfl
  | some φ =>
    simp only [hp] at h ⊢
    obtain ⟨e, m, b, n, cap, arr, h1, h2, h3, h4, h5, h6, h7, rfl⟩ := h
    refine ⟨_, e, m, b, n, cap, arr, h1, h2, h3, h4, h5, by rw [SD.get_snoc, h6]; exact hy, rfl, ?_⟩
    rw [SD.off_snoc f φ _ h6 hy]
    simp [Nat.add_assoc]

theorem fieldOk_spec {t : TypeId} {f : Nat} (h : fieldOk P t f d = true) : ∃ fs fd y, P.underlying t = some (.struct fs) ∧ fs[f]? = some fd ∧ d.nth f = some y ∧ fd.offset = d.offN f ∧ tyOk P fd.type y = true ∧ y.sz ≠ 0 := by
  unfold fieldOk at h
  split at h
  · rename_i fs hu
    split at h
    · rename_i fd y h1 h2
      simp only [Bool.and_eq_true, Bool.not_eq_true', beq_iff, beq_false] at h
      exact ⟨fs, fd, y, hu, h1, h2, h.1.1, h.1.2, h.2⟩
    · cases h
  · cases h

theorem run_fieldAt {t : TypeId} {f : Nat} (h : fieldOk P t f d = true) (hy : d.nth f = some y) (ad : Addr) : (Instr.fieldAt t (.pointer (some ad)) f).run P w = .ok (.pointer (some (ad.add (d.offN f)))) w := by
  obtain ⟨fs, fd, y', hu, hf, hy', ho, ht, hz⟩ := fieldOk_spec h
  obtain ⟨⟨z, hz1, _⟩, hsz⟩ := tyOk_spec ht
  simp only [Instr.fieldAt, Sem.run_bind, run_underlying hu, Result.andThen_ok, hf, Instr.sureAddr, Sem.run_pure, fieldPlace, run_sizeOf' hz1, hsz, if_neg hz, ho]

theorem run_part {t : TypeId} {pre c post : List Value} {v : Value} (ht : tyOk P t y = true) (hl : c.length = y.sz) (hf : Fits y v c) :
    (part t (pre ++ c ++ post).toArray pre.length).run P w = .ok v w := by
  obtain ⟨⟨x, hu, hx⟩, hsz⟩ := tyOk_spec ht
  unfold part isAgg
  rcases hx with ⟨⟨fs, rfl⟩, ha⟩ | ⟨h1, h2, ha⟩
  · rcases hf with ⟨_, rfl⟩ | ⟨hb, _⟩
    · simp only [Sem.run_bind, Sem.run_pure, Result.andThen_ok, run_underlying hu, run_sizeOf' hu, hsz, if_true, ← hl]
      congr 2
      apply Array.ext'
      simp [List.extract_eq_take_drop]
    · rw [ha] at hb; cases hb
  · rcases hf with ⟨hb, _⟩ | ⟨_, rfl⟩
    · rw [ha] at hb; cases hb
    · have e : (pre ++ [v] ++ post).toArray[pre.length]? = some v := by simp
      simp only [Sem.run_bind, Sem.run_pure, Result.andThen_ok, run_underlying hu]
      cases x <;> first | (exact absurd rfl (h1 _)) | (exact absurd rfl (h2 _ _)) | simp only [Sem.run_pure, Result.andThen_ok, Bool.false_eq_true, if_false, e]

/-- A field of a value. -/
theorem run_field {t : TypeId} {f : Nat} (h : fieldOk P t f d = true) (hy : d.nth f = some y) (hd : hasDead y = false) (hR : R P w F d cs p T) :
    ∃ pre c post S1, cs = pre ++ c ++ post ∧ pre.length = d.offN f ∧ R P w F y c (p.fld f) S1 ∧ (Instr.field t (.agg cs.toArray) f).run P w = .ok (mkV y c) w := by
  obtain ⟨fs, fd, y', hu, hf, hy', ho, ht, hz⟩ := fieldOk_spec h
  rw [hy] at hy'
  simp only [Option.some.injEq] at hy'
  subst hy'
  obtain ⟨pre, c, post, S1, rfl, hl, hR1, _, _⟩ := hR.nth hy
  refine ⟨pre, c, post, S1, rfl, hl, hR1, ?_⟩
  have e : (part fd.type (pre ++ c ++ post).toArray fd.offset).run P w = .ok (mkV y c) w := by
    rw [ho, ← hl]; exact run_part ht hR1.len (mkV_fits hR1 hd)
  simp only [List.append_assoc] at e
  simp [Instr.field, run_underlying hu, hf, asAgg, e]

theorem nth_isAgg {f : Nat} (h : d.nth f = some y) : d.isAgg = true := by
  cases d with
  | sc => rfl
  | _ => simp [SD.nth] at h
theorem Fits.agg {v : Value} (h : Fits d v cs) (ha : d.isAgg = true) : v = .agg cs.toArray := by
  rcases h with ⟨_, h⟩ | ⟨h, _⟩
  · exact h
  · rw [ha] at h; cases h

section
variable {a : Act} {o : Oper} {K : Act → World → Prop} {Q : Exit → Act → World → Prop} {dst : Nat} {v : Value} {I : Interp} {σ' : Nat → PV} {r : SR}

theorem rp_set (h : RelX C Γ σ val loc S F a.tmps w) (ht : dst < C.nt) (hdst : o.dst = some dst) {ad : Addr} {q : PV}
    (hr : (execOp a.eval o).run C.P w = .ok (.value (.pointer (some ad))) w) (hl : c.length = x.sz) (hc : CellsAt w F (some ad) 0 c) (hR : R C.P w F x c q Set.none)
    (hK : Cont C (ap Γ [(tk dst, .rp x)] [tk dst] []) (updF σ (tk dst) q) a K) : o.wp C.P a w K Q :=
  wp_set1 (x := .rp x) (p := q) h ht hdst hr ⟨ad, c, by rw [updF_same], hl, hc, by rw [updF_same]; exact hR⟩ hK

theorem setN_twice : ∀ (d : SD) (i : Nat) (x y : SD), d.nth i = some y → (d.setN i x).setN i y = d
  | .sc a b, 0, x, y, h => by simp only [SD.nth, Option.some.injEq] at h; subst h; rfl
  | .sc a b, i + 1, x, y, h => by simp only [SD.nth] at h; simp only [SD.setN, setN_twice b i x y h]
  | .int _, _, _, _, h | .bool, _, _, _, h | .str, _, _, _, h | .bor _, _, _, _, h | .nl, _, _, _, h | .own _ _, _, _, _, h | .mz, _, _, _, h | .mp _, _, _, _, h | .sb _, _, _, _, h | .ifc, _, _, _, h | .np, _, _, _, h | .fp _, _, _, _, h | .sn, _, _, _, h | .dead _, _, _, _, h => by simp [SD.nth] at h
theorem nth_setN : ∀ (d : SD) (i : Nat) (x y : SD), d.nth i = some y → (d.setN i x).nth i = some x
  | .sc a b, 0, x, y, h => rfl
  | .sc a b, i + 1, x, y, h => by simp only [SD.nth] at h; simp only [SD.setN, SD.nth, nth_setN b i x y h]
  | .int _, _, _, _, h | .bool, _, _, _, h | .str, _, _, _, h | .bor _, _, _, _, h | .nl, _, _, _, h | .own _ _, _, _, _, h | .mz, _, _, _, h | .mp _, _, _, _, h | .sb _, _, _, _, h | .ifc, _, _, _, h | .np, _, _, _, h | .fp _, _, _, _, h | .sn, _, _, _, h | .dead _, _, _, _, h => by simp [SD.nth] at h
theorem offN_setN : ∀ (d : SD) (i : Nat) (x : SD), (d.setN i x).offN i = d.offN i
  | .sc a b, 0, x => rfl
  | .sc a b, i + 1, x => by simp only [SD.setN, SD.offN, offN_setN b i x]
  | .int _, _, _ | .bool, _, _ | .str, _, _ | .bor _, _, _ | .nl, _, _ | .own _ _, _, _ | .mz, _, _ | .mp _, _, _ | .sb _, _, _ | .ifc, _, _ | .np, _, _ | .fp _, _, _ | .sn, _, _ | .dead _, _, _ => rfl
/-- A field of one cell that was not known is known again. -/
theorem R.revive {P : Program} {w : World} {F : Set} {d y : SD} {cs : List Value} {p q : PV} {i : Nat} {v : Value} (h : R P w F (d.put [i] (.dead 1)) cs p Set.none) (hy : d.nth i = some y) (hv : cs[d.offN i]? = some v) (hR : R P w F y [v] q Set.none) : R P w F d cs (p.setFld i q) Set.none := by
  have hp : d.put [i] (.dead 1) = d.setN i (.dead 1) := by simp [SD.put, hy]
  rw [hp] at h
  obtain ⟨pre, c1, post, S1, e, hl, h1, _, wand⟩ := h.nth (nth_setN d i _ y hy)
  have hc1 : c1 = [v] := by
    have h1l := h1.len
    simp only [SD.sz] at h1l
    obtain ⟨u, rfl⟩ := List.length_eq_one_iff.1 h1l
    rw [e, List.append_assoc, List.getElem?_append_right (by rw [hl, offN_setN]; exact Nat.le_refl _), hl, offN_setN, Nat.sub_self] at hv
    simp at hv
    rw [hv]
  subst hc1
  have := wand (w' := w) (F' := F) (x' := y) (c1' := [v]) (q := q) (S1' := Set.none) (fun b hb => hb) (fun _ _ => rfl) hR (fun _ hb _ => hb.elim)
  rw [setN_twice d i _ y hy, ← e] at this
  exact this.wide fun b hb => hb.elim (fun h => h.1) id
/-- A field behind a shared pointer. -/
theorem R.fpField {P : Program} {w : World} {F : Set} {t : TypeId} {v : Value} {p : PV} {f : Nat} {y : SD} (h : R P w F (.fp t) [v] p Set.none) (hp : 0 < p.toList.length) (hy : (sdOf P t).nth f = some y) (hc : (Nat.beq t cycE && Nat.beq f 1) = true → y = .fp cycV) :
    ∃ b c, v = .pointer (some ⟨b, 0, none⟩) ∧ c.length = y.sz ∧ CellsAt w F (some ⟨b, (sdOf P t).offN f, none⟩) 0 c ∧ R P w F y c (if (Nat.beq t cycE && Nat.beq f 1) = true then unrec p else (p.toList.getD 0 .unit).get [f]) Set.none := by
  have h0 := h
  generalize hd : SD.fp t = d at h
  generalize hv : [v] = cs at h
  cases h <;> cases hd
  · simp [PV.toList] at hp
  · rename_i b arr p' h2 h1 h3
    simp only [List.cons.injEq, and_true] at hv
    subst hv
    obtain ⟨pre, c1, post, S1, e, hl, hR, hS1, _⟩ := h3.nth hy
    refine ⟨b, c1, rfl, hR.len, fun i u hu => ⟨_, rfl, h2, ?_⟩, ?_⟩
    · have : (⟨b, (sdOf P t).offN f, none⟩ : Addr).add (0 + i) = ⟨b, (sdOf P t).offN f + i, none⟩ := by rw [Nat.zero_add]; unfold Addr.add; split <;> simp_all
      rw [this]
      refine cell_of_heap h1 ?_
      rw [← Array.getElem?_toList, e, ← hl, List.append_assoc, List.getElem?_append_right (by omega), Nat.add_sub_cancel_left, List.getElem?_append_left (List.getElem?_eq_some_iff.1 hu).1]
      exact hu
    · have hR' := hR.wide hS1
      split
      · rename_i hcond
        have hy' := hc hcond
        subst hy'
        simp only [Bool.and_eq_true, beq_iff] at hcond
        obtain ⟨l, hl1, _⟩ := hR.fpList
        have e1 : f = 1 := hcond.2
        subst e1
        have : unrec (.list [p']) = p'.fld 1 := by
          unfold unrec
          simp only [PV.toList, List.getD_cons_zero]
          rw [hl1]
        rw [this]
        exact hR'
      · simpa [PV.toList, PV.get] using hR'
  · rename_i b c s u pu arrV pV h1 h2 h3 h4 h5 h6 h7 h8
    simp only [List.cons.injEq, and_true] at hv
    subst hv
    have hcell : ∀ (i : Nat) (x : Value), (#[Value.string s, .pointer (some ⟨c, 0, none⟩), u] : Array Value)[i]? = some x → CellsAt w F (some ⟨b, i, none⟩) 0 [x] := by
      intro i x hx j y' hj
      cases j with
      | succ j => simp at hj
      | zero =>
        simp only [List.getElem?_cons_zero, Option.some.injEq] at hj
        subst hj
        refine ⟨_, rfl, h4, ?_⟩
        have : (⟨b, i, none⟩ : Addr).add (0 + 0) = ⟨b, i, none⟩ := by unfold Addr.add; simp
        rw [this]
        exact cell_of_heap h2 hx
    have hs := h1.1
    rw [hs] at hy ⊢
    match f, hy, hc with
    | 0, hy, hc =>
      simp only [SD.nth, Option.some.injEq] at hy
      subst hy
      refine ⟨b, [.string s], rfl, rfl, hcell 0 _ rfl, ?_⟩
      rw [if_neg (by simp [Nat.beq])]
      exact .str ..
    | 1, hy, hc =>
      simp only [SD.nth, Option.some.injEq] at hy
      subst hy
      refine ⟨b, [.pointer (some ⟨c, 0, none⟩)], rfl, rfl, hcell 1 _ rfl, ?_⟩
      rw [if_pos (by simp [Nat.beq_eq])]
      exact .fp cycV c arrV _ _ h3 h5 (h7.revive h1.2 h8 h0)
    | 2, hy, hc =>
      simp only [SD.nth, Option.some.injEq] at hy
      subst hy
      refine ⟨b, [u], rfl, rfl, hcell 2 _ rfl, ?_⟩
      rw [if_neg (by simp [Nat.beq])]
      exact h6
    | f + 3, hy, hc => simp [SD.nth] at hy

theorem cFieldAddr_ok {t : TypeId} {ax : Operand} {f : Nat} (h : RelX C Γ σ val loc S F a.tmps w) (ht : dst < C.nt) (hdst : o.dst = some dst) (hop : o.op = .fieldAddr t ax f)
    (hc : cFieldAddr C.P Γ dst t ax f = some r) (hrun : r.run I σ = some σ') (hK : Cont C (apS Γ r) σ' a K) : o.wp C.P a w K Q := by
  have hex : ∀ {v : Value}, (Instr.fieldAt t (a.eval ax) f).run C.P w = .ok v w → (execOp a.eval o).run C.P w = .ok (.value v) w := fun {v} e2 => by
    simp [execOp, hop, e2]
  unfold cFieldAddr at hc
  split at hc
  · rename_i p
    have hev : a.eval (.tmp p) = val (tk p) := (h.tm p).symm
    rw [hev] at hex
    split at hc
    · rename_i t' k hfp
      unfold cFieldF at hc
      split at hc
      · rename_i y hy
        split at hc
        · rename_i hcond
          simp only [Bool.and_eq_true, beq_iff, Bool.or_eq_true, Bool.not_eq_true', decide_eq_true_eq] at hcond
          obtain ⟨⟨rfl, hfo⟩, hcy⟩ := hcond
          simp only [Option.some.injEq] at hc
          subst hc
          obtain ⟨hchk, rfl⟩ := mk1_run hrun
          have hR := fpPlace_ok h hfp
          obtain ⟨b, c, hb, hl, hcells, hRy⟩ := hR.fpField (nonNil_ok hchk) hy (fun e => by
            rcases hcy with hcy | hcy
            · rw [e] at hcy; cases hcy
            · exact hcy)
          have hr := run_fieldAt (P := C.P) (w := w) hfo hy ⟨b, 0, none⟩
          have hadd : (⟨b, 0, none⟩ : Addr).add ((sdOf C.P t).offN f) = ⟨b, (sdOf C.P t).offN f, none⟩ := add_zero_off _ _
          rw [hadd, ← hb] at hr
          refine rp_set (ad := ⟨b, (sdOf C.P t).offN f, none⟩) h ht hdst (hex hr) hl hcells ?_ hK
          split at hRy
          · rename_i hcond; rw [if_pos hcond]; exact hRy
          · rename_i hcond; rw [if_neg hcond]; exact hRy
        · cases hc
      · cases hc
    split at hc
    · rename_i k r' ty π hcp
      split at hc
      · rename_i d0 hsh
        split at hc
        · rename_i hcond
          simp only [Bool.and_eq_true, Bool.not_eq_true', beq_false] at hcond
          obtain ⟨⟨hok, hne1⟩, hne2⟩ := hcond
          obtain ⟨d, cs, base, arr, h1, h2, h3, h4, h5, h6, h7⟩ := copyPlace_ok h hcp hsh
          obtain ⟨fs, fd, y, hu, hf, hy, ho, hty, hz⟩ := fieldOk_spec hok
          simp only [Option.some.injEq] at hc
          subst hc
          rw [mk1_run0 hrun] at hK
          have hr := run_fieldAt (P := C.P) (w := w) hok hy ⟨loc k, d.off π, none⟩
          rw [← h6] at hr
          refine wp_set1 (x := .cptr k r' ty (π ++ [f])) (p := .unit) h ht hdst (hex hr) ⟨⟨d, cs, base, arr, y, h1.set1 hne2 _ _, h2, by rw [updF_ne _ _ hne1]; exact h3, h4, by rw [SD.get_snoc, h5]; exact hy, ?_⟩, by rw [updF_same]⟩ hK
          rw [updF_same, add_off, SD.off_snoc f π d h5 hy]
        · cases hc
      · cases hc
    · split at hc
      · rename_i d0 hΓ
        have hok := h.ok (tk p)
        rw [hΓ] at hok
        obtain ⟨ad, cs, h1, h2, h3, h4⟩ := hok
        split at hc
        · rename_i y hy
          split at hc
          · rename_i hfo
            simp only [Option.some.injEq] at hc
            subst hc
            rw [mk1_run0 hrun] at hK
            obtain ⟨pre, c1, post, S1, rfl, hl, hR1, hS1, _⟩ := h4.nth hy
            have hr := run_fieldAt (P := C.P) (w := w) hfo hy ad
            rw [← h1] at hr
            refine rp_set h ht hdst (hex hr) hR1.len (fun i u hu => ?_) (hR1.wide hS1) hK
            have hu' : (pre ++ c1 ++ post)[d0.offN f + i]? = some u := by
              rw [← hl, List.append_assoc, List.getElem?_append_right (by omega), Nat.add_sub_cancel_left, List.getElem?_append_left (List.getElem?_eq_some_iff.1 hu).1]
              exact hu
            obtain ⟨ad', e, hF, hcell⟩ := h3 _ _ hu'
            simp only [Option.some.injEq] at e
            subst e
            refine ⟨_, rfl, by have : (ad.add (d0.offN f)).block = ad.block := by (unfold Addr.add; split <;> rfl)
                               rw [this]; exact hF, ?_⟩
            rw [add_two]
            simpa using hcell
          · cases hc
        · cases hc
      · split at hc
        · rename_i k π d0 hpl
          split at hc
          · cases hc
          · rename_i hcond
            simp only [Bool.or_eq_true, Bool.not_eq_true', not_or, Bool.not_eq_false] at hcond
            obtain ⟨hfo, hne⟩ := hcond
            have hne : k ≠ tk dst := fun e => hne (beq_iff.2 e)
            obtain ⟨d, cs, base, c, b, off, h1, h2, h3, h4⟩ := placeOf_ok h hpl
            obtain ⟨fs, fd, y, hu, hf, hy, ho, hty, hz⟩ := fieldOk_spec hfo
            obtain ⟨c', hs⟩ := h2.field hy
            have hr := run_fieldAt (P := C.P) (w := w) hfo hy ⟨b, off, none⟩
            rw [← h3, add_off] at hr
            unfold Pth.snoc at hs
            split at hc
            · rename_i hpo
              simp only [hpo] at hs
              simp only [Option.some.injEq] at hc
              subst hc
              rw [mk1_run0 hrun] at hK
              exact ptr_set h ht hdst (hex hr) h1 hs (fun _ => h4 hpo) hne hK
            · rename_i φ hpo
              simp only [hpo] at hs
              simp only [Option.some.injEq] at hc
              subst hc
              rw [mk1_run0 hrun] at hK
              exact ptr_set h ht hdst (hex hr) h1 hs (fun e => by cases e) hne hK
        · cases hc
  · cases hc

theorem cField_ok {t : TypeId} {ax : Operand} {f : Nat} (h : RelX C Γ σ val loc S F a.tmps w) (ht : dst < C.nt) (hdst : o.dst = some dst) (hop : o.op = .field t ax f)
    (hc : cField C.P Γ dst t ax f = some r) (hrun : r.run I σ = some σ') (hK : Cont C (apS Γ r) σ' a K) : o.wp C.P a w K Q := by
  have hex : ∀ {v : Value}, (Instr.field t (a.eval ax) f).run C.P w = .ok v w → (execOp a.eval o).run C.P w = .ok (.value v) w := fun {v} e2 => by
    simp [execOp, hop, e2]
  unfold cField at hc
  split at hc
  · rename_i p
    have hev : a.eval (.tmp p) = val (tk p) := (h.tm p).symm
    rw [hev] at hex
    have hok := h.ok (tk p)
    split at hc
    · rename_i d0 hΓ
      rw [hΓ] at hok
      obtain ⟨cs, hf, hR⟩ := hok
      split at hc
      · rename_i y hy
        split at hc
        · cases hc
        · rename_i hcond
          simp only [Bool.or_eq_true, Bool.not_eq_true', not_or, Bool.not_eq_false, Bool.not_eq_true] at hcond
          obtain ⟨hfo, hdead⟩ := hcond
          obtain ⟨pre, c, post, S1, e, hl, hR1, hr⟩ := run_field hfo hy hdead hR
          rw [← hf.agg (nth_isAgg hy)] at hr
          have hfit := mkV_fits hR1 hdead
          split at hc
          · rename_i hp
            simp only [Option.some.injEq] at hc
            subst hc
            rw [mk1_run0 hrun] at hK
            exact wp_plain h ht hdst (hex hr) ⟨c, hfit, hR1.ofPlain hp _⟩ hK
          · split at hc
            · cases hc
            · rename_i hne
              have hne : tk p ≠ tk dst := fun e => hne (beq_iff.2 (tk_inj e))
              simp only [Option.some.injEq] at hc
              subst hc
              rw [mk1_run0 hrun] at hK
              refine view_set h ht hdst (hex hr) (d := d0) (cs := cs) (base := none) (x := y) (c := c) (ad := none) (.inl ⟨hΓ, hf, rfl⟩) ?_ hfit (fun _ => rfl) hne hK
              unfold Sub
              simp only [SD.get, hy, Option.bind_some, SD.off, Option.map_none, true_and, and_true, Nat.add_zero]
              rw [e, take_drop_mid hl hR1.len]
      · cases hc
    · rename_i k π hΓ
      rw [hΓ] at hok
      obtain ⟨⟨d, cs, base, x, c, ad, h1, h2, h3⟩, h4⟩ := hok
      rw [h2.shape h1] at hc
      simp only at hc
      split at hc
      · rename_i y hy
        split at hc
        · cases hc
        · rename_i hcond
          simp only [Bool.or_eq_true, Bool.not_eq_true', not_or, Bool.not_eq_false, Bool.not_eq_true] at hcond
          obtain ⟨⟨hfo, hne⟩, hdead⟩ := hcond
          have hne : k ≠ tk dst := beq_false.1 hne
          split at hc
          · rename_i hpo
            obtain ⟨T0, hR, _⟩ := h.subR h1 h2
            obtain ⟨pre, c1, post, S1, e, hl, hR1, hr⟩ := run_field hfo hy hdead hR
            rw [← h3.agg (nth_isAgg hy)] at hr
            have hfit := mkV_fits hR1 hdead
            split at hc
            · rename_i hp
              simp only [Option.some.injEq] at hc
              subst hc
              rw [mk1_run0 hrun] at hK
              refine wp_plain h ht hdst (hex hr) ⟨c1, hfit, hR1.ofPlain hp _⟩ ?_
              have : (getAt (σ k) π (σ (tk p)).toInt.toNat).fld f = (PX.get (.k k) (π.pre ++ [f])).eval σ [] := by
                unfold getAt
                simp only [hpo, PX.eval, PV.get_snoc]
              rw [this]; exact hK
            · simp only [Option.some.injEq] at hc
              subst hc
              rw [mk1_run0 hrun] at hK
              obtain ⟨c', hs⟩ := h2.field hy
              unfold Pth.snoc at hs
              simp only [hpo] at hs
              have hj : Sub C.P w (S k) d cs base ⟨π.pre ++ [f], none⟩ (PV.unit.toInt.toNat) y c' (ad.map fun q => (q.1, q.2 + x.offN f)) := hs
              have hcc : c' = c1 := by
                unfold Sub at hs h2
                simp only [hpo] at hs h2
                rw [hs.2.1, SD.off_snoc f _ _ h2.1 hy, ← List.drop_drop]
                have e2 := h2.2.1
                rw [e] at e2
                have hcx : ∃ tl, cs.drop (d.off π.pre) = pre ++ c1 ++ post ++ tl := ⟨(cs.drop (d.off π.pre)).drop x.sz, by rw [e2, List.take_append_drop]⟩
                obtain ⟨tl, etl⟩ := hcx
                rw [etl]
                have : pre ++ c1 ++ post ++ tl = pre ++ c1 ++ (post ++ tl) := by simp
                rw [this, take_drop_mid hl hR1.len]
              subst hcc
              exact view_set h ht hdst (hex hr) h1 hj hfit (fun _ => rfl) hne hK
          · cases hc
      · cases hc
    · cases hc
  · cases hc
end
end
end Go.Rsc
