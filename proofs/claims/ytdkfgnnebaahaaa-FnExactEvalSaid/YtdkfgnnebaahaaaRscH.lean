/- Places: what is read there. No conditions. -/
import Derived.Test.YtdkfgnnebaahaaaRscG
namespace Go.Rsc
open Go.RowKit
set_option linter.unusedVariables false
set_option linter.unusedSimpArgs false

theorem add_off (b off i : Nat) : (⟨b, off, none⟩ : Addr).add i = ⟨b, off + i, none⟩ := by unfold Addr.add; split <;> simp_all
theorem add_two (a : Addr) (m n : Nat) : (a.add m).add n = a.add (m + n) := by
  unfold Addr.add
  by_cases h1 : m = 0 <;> by_cases h2 : n = 0 <;> simp [h1, h2, Nat.add_assoc]

section
variable {P : Program} {w w' : World} {F F' : Set} {Γ : Nat → D} {σ : Nat → PV} {val : Nat → Value} {loc : Nat → Nat} {S : Nat → Set} {C : Cx} {tmps : Array Value}
variable {d d' x : SD} {cs c : List Value} {p : PV} {T T' : Set}

theorem RelX.rootOf (h : RelX C Γ σ val loc S F tmps w) {o : Nat} (hr : rootSD Γ o = some d) : ∃ cs base, Root w Γ val loc S o d cs base := by
  have hk := h.ok o
  unfold rootSD at hr
  cases hΓ : Γ o <;> simp only [hΓ, reduceCtorEq, Option.some.injEq] at hr
  · subst hr
    rw [hΓ] at hk
    obtain ⟨cs, hf, _⟩ := hk
    exact ⟨cs, none, .inl ⟨hΓ, hf, rfl⟩⟩
  · subst hr
    rw [hΓ] at hk
    obtain ⟨arr, T, h1, h2, _⟩ := hk
    exact ⟨arr.toList, some (loc o), .inr ⟨_, arr, hΓ, h1, h2, rfl, rfl⟩⟩

/-- What lies at a place. -/
def getAt (p : PV) (π : Pth) (j : Nat) : PV := match π.post with
  | none => p.get π.pre
  | some φ => ((p.get π.pre).toList.getD j .unit).get φ
theorem getPX_eval (o : Nat) (π : Pth) (dyn : PX) (rs : List PV) : (getPX o π dyn).eval σ rs = getAt (σ o) π (dyn.eval σ rs).toInt.toNat := by
  unfold getPX getAt
  cases π.post <;> rfl

theorem Sub.shape {o j : Nat} {base : Option Nat} {π : Pth} {ad : Option (Nat × Nat)} (hr : Root w Γ val loc S o d cs base) (hs : Sub P w (S o) d cs base π j x c ad) : shapeAt P Γ o π = some x := by
  unfold shapeAt
  rw [hr.sd]
  unfold Sub at hs
  cases hp : π.post with
  | none => simp only [hp] at hs ⊢; exact hs.1
  | some φ =>
    simp only [hp] at hs ⊢
    obtain ⟨e, m, b, n, cap, arr, h1, _, _, _, _, h6, _⟩ := hs
    rw [h1]
    exact h6

theorem getD_some {α : Type} {l : List α} {j : Nat} (h : j < l.length) (z : α) : l[j]? = some (l.getD j z) := by
  rw [List.getD_eq_getElem?_getD, List.getElem?_eq_getElem h]
  rfl

/-- The cells at a place hold what lies there. -/
theorem RelX.subR (h : RelX C Γ σ val loc S F tmps w) {o j : Nat} {base : Option Nat} {π : Pth} {ad : Option (Nat × Nat)} (hr : Root w Γ val loc S o d cs base) (hs : Sub C.P w (S o) d cs base π j x c ad) :
    ∃ T, R C.P w F x c (getAt (σ o) π j) T ∧ (∀ b, T b → S o b) := by
  obtain ⟨T0, hR, hT0⟩ := h.rootR hr
  unfold Sub at hs
  unfold getAt
  cases hp : π.post with
  | none =>
    simp only [hp] at hs ⊢
    obtain ⟨hx, rfl, _⟩ := hs
    obtain ⟨pre, c1, post, T, rfl, hl, hR1, hT, _⟩ := R.focus π.pre hR hx
    rw [take_drop_mid hl hR1.len]
    exact ⟨T, hR1, fun b hb => (hT0 b (hT b hb)).1⟩
  | some φ =>
    simp only [hp] at hs ⊢
    obtain ⟨e, m, b, n, cap, arr, h1, h2, h3, h4, h5, h6, rfl, _⟩ := hs
    obtain ⟨pre, c1, post, T, rfl, hl, hR1, hT, _⟩ := R.focus π.pre hR h1
    rw [take_drop_mid (m := 1) hl hR1.len] at h2
    subst h2
    generalize (σ o).get π.pre = q at hR1
    cases hR1 with
    | own _ _ _ _ _ arr' ps _ Ss g1 g2 g3 g4 g5 g6 g7 g8 g9 g10 g11 =>
      rw [h5] at g1
      simp only [Option.some.injEq, Obj.cells.injEq, and_true, true_and] at g1
      subst g1
      have hj : j < ps.length := by rw [g5]; exact h3
      have := g11 j _ (getD_some hj .unit)
      obtain ⟨pre2, c2, post2, T2, e2, hl2, hR2, hT2, _⟩ := R.focus φ this h6
      rw [e2, take_drop_mid hl2 hR2.len]
      exact ⟨T2, hR2, fun b hb => (hT0 b (hT b (g8 j b (hT2 b hb)))).1⟩

/-- .. and lie at its address. -/
theorem Sub.cells {o j : Nat} {base : Option Nat} {π : Pth} {b off : Nat} (hr : Root w Γ val loc S o d cs base) (hs : Sub P w (S o) d cs base π j x c (some (b, off))) :
    ∀ i u, c[i]? = some u → w.cell? ⟨b, off + i, none⟩ = some u := by
  intro i u hu
  unfold Sub at hs
  cases hp : π.post with
  | none =>
    simp only [hp] at hs
    obtain ⟨hx, rfl, had⟩ := hs
    rcases hr with ⟨_, _, rfl⟩ | ⟨t, arr, _, a2, _, rfl, rfl⟩
    · simp at had
    · simp only [Option.map_some, Option.some.injEq, Prod.mk.injEq] at had
      obtain ⟨rfl, rfl⟩ := had
      refine cell_of_heap a2 ?_
      rw [List.getElem?_take] at hu
      split at hu
      · rw [List.getElem?_drop] at hu; simpa using hu
      · cases hu
  | some φ =>
    simp only [hp] at hs
    obtain ⟨e, m, b', n, cap, arr, h1, h2, h3, h4, h5, h6, rfl, had⟩ := hs
    simp only [Option.some.injEq, Prod.mk.injEq] at had
    obtain ⟨rfl, rfl⟩ := had
    refine cell_of_heap h5 ?_
    rw [List.getElem?_take] at hu
    split at hu
    · rw [List.getElem?_drop] at hu
      have := elemAt_get hu
      rw [Nat.add_assoc]
      exact this
    · cases hu

/-- The value of a shape's cells. -/
def mkV (d : SD) (cs : List Value) : Value := if d.isAgg then .agg cs.toArray else cs.headD undef
theorem mkV_fits (h : R P w F d cs p T) (hd : hasDead d = false) : Fits d (mkV d cs) cs := by
  unfold mkV
  cases ha : d.isAgg with
  | true => exact .inl ⟨ha, rfl⟩
  | false =>
    obtain ⟨x, rfl, _⟩ := h.one ha hd
    exact .inr ⟨ha, rfl⟩

theorem plain_noDead : ∀ {d : SD}, d.plain = true → hasDead d = false
  | .sc a b, h => by
    simp only [SD.plain, Bool.and_eq_true] at h
    simp [hasDead, plain_noDead h.1, plain_noDead h.2]
  | .dead n, h => by simp [SD.plain] at h
  | .int _, _ | .bool, _ | .str, _ | .bor _, _ | .nl, _ | .own _ _, _ | .mz, _ | .mp _, _ | .sb _, _ | .ifc, _ | .np, _ | .fp _, _ | .sn, _ => rfl

theorem ap_root1 {t : Nat} {y : D} {o : Nat} (ho : o ≠ tk t) (hroot : (Γ o).isRoot = true) : ap Γ [(tk t, y)] [tk t] [] o = Γ o :=
  ap_root (by rw [look_cons, look_nil, if_neg ho]) hroot
/-- A root stays what it is while a temporary is set. -/
theorem Root.set1 {o t : Nat} {base : Option Nat} (hr : Root w Γ val loc S o d cs base) (ho : o ≠ tk t) (y : D) (v : Value) : Root w (ap Γ [(tk t, y)] [tk t] []) (updF val (tk t) v) loc (updF S (tk t) Set.none) o d cs base := by
  rcases hr with ⟨a1, a2, a3⟩ | ⟨t', arr, a1, a2, a3, a4, a5⟩
  · exact .inl ⟨by rw [ap_root1 ho (by rw [a1]; rfl), a1], by rw [updF_ne _ _ ho]; exact a2, a3⟩
  · exact .inr ⟨t', arr, by rw [ap_root1 ho (by rw [a1]; rfl), a1], a2, by rw [updF_ne _ _ ho]; exact a3, a4, a5⟩
theorem Sub.set1 {o t j : Nat} {base : Option Nat} {π : Pth} {ad : Option (Nat × Nat)} (hs : Sub P w (S o) d cs base π j x c ad) (ho : o ≠ tk t) : Sub P w (updF S (tk t) Set.none o) d cs base π j x c ad := by
  rw [updF_ne _ _ ho]; exact hs

section
variable {a : Act} {o : Oper} {K : Act → World → Prop} {Q : Exit → Act → World → Prop} {dst : Nat} {v : Value} {I : Interp} {σ' : Nat → PV} {r : SR}

/-- What a pointer that leads to a root's place gives. -/
theorem placeOf_ok (h : RelX C Γ σ val loc S F tmps w) {p : Nat} {k : Nat} {π : Pth} (hp : placeOf C.P Γ p = some (k, π, x)) :
    ∃ d cs base c b off, Root w Γ val loc S k d cs base ∧ Sub C.P w (S k) d cs base π (σ (tk p)).toInt.toNat x c (some (b, off)) ∧ val (tk p) = .pointer (some ⟨b, off, none⟩) ∧ (π.post = none → σ (tk p) = .unit) := by
  unfold placeOf at hp
  have hok := h.ok (tk p)
  split at hp
  · rename_i o hΓ
    rw [hΓ] at hok
    split at hp
    · rename_i t d0 hΓo
      simp only [Option.some.injEq, Prod.mk.injEq] at hp
      obtain ⟨rfl, rfl, rfl⟩ := hp
      have hko := h.ok o
      rw [hΓo] at hko
      obtain ⟨arr, T, h1, h2, h3, h4⟩ := hko
      refine ⟨d0, arr.toList, some (loc o), arr.toList, loc o, 0, .inr ⟨t, arr, hΓo, h1, h2, rfl, rfl⟩, ?_, hok.1, fun _ => hok.2⟩
      unfold Sub
      simp only [SD.get, SD.off, List.drop_zero, true_and, Option.map_some, and_true]
      rw [← h4.len, List.take_length]
    · cases hp
  · rename_i o π' hΓ
    rw [hΓ] at hok
    obtain ⟨⟨d, cs, base, x', c, b, off, h1, h2, h3⟩, h4⟩ := hok
    obtain ⟨x2, hx2, e⟩ := Option.map_eq_some_iff.1 hp
    simp only [Prod.mk.injEq] at e
    obtain ⟨rfl, rfl, rfl⟩ := e
    rw [h2.shape h1] at hx2
    simp only [Option.some.injEq] at hx2
    subst hx2
    exact ⟨d, cs, base, c, b, off, h1, h2, h3, h4⟩
  · cases hp

theorem copyPlace_ok (h : RelX C Γ σ val loc S F tmps w) {p k r' : Nat} {ty : TypeId} {π : List Nat} (hp : copyPlace Γ p = some (k, r', ty, π)) (hx : shapeAt C.P Γ r' ⟨π, none⟩ = some x) :
    ∃ d cs base arr, Root w Γ val loc S r' d cs base ∧ w.heap[loc k]? = some (.cells arr ty (0, 0)) ∧ S k (loc k) ∧ arr.toList = cs ∧ d.get π = some x ∧ val (tk p) = .pointer (some ⟨loc k, d.off π, none⟩) ∧ σ (tk p) = .unit := by
  unfold copyPlace at hp
  have hok := h.ok (tk p)
  have shp : ∀ {d cs base}, Root w Γ val loc S r' d cs base → d.get π = some x := by
    intro d cs base hr
    unfold shapeAt at hx
    rw [hr.sd] at hx
    exact hx
  split at hp
  · rename_i o hΓ
    rw [hΓ] at hok
    split at hp
    · rename_i r0 t0 hΓo
      simp only [Option.some.injEq, Prod.mk.injEq] at hp
      obtain ⟨rfl, rfl, rfl, rfl⟩ := hp
      have hko := h.ok o
      rw [hΓo] at hko
      obtain ⟨d, cs, base, arr, h1, h2, h3, h4⟩ := hko
      exact ⟨d, cs, base, arr, h1, h2, h3, h4, shp h1, hok.1, hok.2⟩
    · cases hp
  · rename_i o r0 t0 π0 hΓ
    simp only [Option.some.injEq, Prod.mk.injEq] at hp
    obtain ⟨rfl, rfl, rfl, rfl⟩ := hp
    rw [hΓ] at hok
    obtain ⟨⟨d, cs, base, arr, x', h1, h2, h3, h4, h5, h6⟩, h7⟩ := hok
    exact ⟨d, cs, base, arr, h1, h2, h3, h4, shp h1, h6, h7⟩
  · cases hp

theorem view_set (h : RelX C Γ σ val loc S F a.tmps w) (ht : dst < C.nt) (hdst : o.dst = some dst) {k : Nat} {π : Pth} {base : Option Nat} {ad : Option (Nat × Nat)} {q : PV}
    (hr : (execOp a.eval o).run C.P w = .ok (.value v) w) (hroot : Root w Γ val loc S k d cs base) (hsub : Sub C.P w (S k) d cs base π q.toInt.toNat x c ad) (hf : Fits x v c) (hq : π.post = none → q = .unit) (hne : k ≠ tk dst)
    (hK : Cont C (ap Γ [(tk dst, .view k π)] [tk dst] []) (updF σ (tk dst) q) a K) : o.wp C.P a w K Q :=
  wp_set1 (x := .view k π) (p := q) h ht hdst hr ⟨⟨d, cs, base, x, c, ad, hroot.set1 hne _ _, by rw [updF_same]; exact hsub.set1 hne, by rw [updF_same]; exact hf⟩, fun e => by rw [updF_same]; exact hq e⟩ hK
theorem ptr_set (h : RelX C Γ σ val loc S F a.tmps w) (ht : dst < C.nt) (hdst : o.dst = some dst) {k : Nat} {π : Pth} {base : Option Nat} {b off : Nat} {q : PV}
    (hr : (execOp a.eval o).run C.P w = .ok (.value (.pointer (some ⟨b, off, none⟩))) w) (hroot : Root w Γ val loc S k d cs base) (hsub : Sub C.P w (S k) d cs base π q.toInt.toNat x c (some (b, off))) (hq : π.post = none → q = .unit) (hne : k ≠ tk dst)
    (hK : Cont C (ap Γ [(tk dst, .ptr k π)] [tk dst] []) (updF σ (tk dst) q) a K) : o.wp C.P a w K Q :=
  wp_set1 (x := .ptr k π) (p := q) h ht hdst hr ⟨⟨d, cs, base, x, c, b, off, hroot.set1 hne _ _, by rw [updF_same]; exact hsub.set1 hne, by rw [updF_same]⟩, fun e => by rw [updF_same]; exact hq e⟩ hK

theorem cLoad_ok {t : TypeId} {ax : Operand} (h : RelX C Γ σ val loc S F a.tmps w) (ht : dst < C.nt) (hdst : o.dst = some dst) (hop : o.op = .load t ax)
    (hc : cLoad C.P Γ dst t ax = some r) (hrun : r.run I σ = some σ') (hK : Cont C (apS Γ r) σ' a K) : o.wp C.P a w K Q := by
  have hex : ∀ v w', (Instr.loadAt t (a.eval ax)).run C.P w = .ok v w' → (execOp a.eval o).run C.P w = .ok (.value v) w' := fun v w' e => by
    simp [execOp, hop, e]
  unfold cLoad at hc
  split at hc
  · rename_i p
    have hev : a.eval (.tmp p) = val (tk p) := (h.tm p).symm
    rw [hev] at hex
    split at hc
    · rename_i k r' ty π hcp
      split at hc
      · rename_i d0 hsh
        split at hc
        · cases hc
        · rename_i hcond
          simp only [Bool.or_eq_true, Bool.not_eq_true', not_or, Bool.not_eq_false, Bool.not_eq_true] at hcond
          obtain ⟨⟨hty, hdead⟩, hne⟩ := hcond
          obtain ⟨d, cs, base, arr, h1, h2, h3, h4, h5, h6, h7⟩ := copyPlace_ok h hcp hsh
          obtain ⟨T0, hR, hT0⟩ := h.rootR h1
          obtain ⟨pre, c1, post, T, e, hl, hR1, hT, _⟩ := R.focus π hR h5
          have hval := mkV_fits hR1 hdead
          have hload := run_loadAt (P := C.P) (w := w) (t := t) (ad := ⟨loc k, d.off π, none⟩) hty hR1.len (fun i u hu => by
            rw [add_off]
            refine cell_of_heap h2 ?_
            have : cs[d.off π + i]? = some u := by
              rw [e, ← hl, List.append_assoc, List.getElem?_append_right (by omega), Nat.add_sub_cancel_left, List.getElem?_append_left (List.getElem?_eq_some_iff.1 hu).1]
              exact hu
            rw [← h4] at this
            simpa using this) hval
          rw [← h6] at hload
          have hr := hex _ _ hload
          split at hc
          · rename_i hpl
            simp only [Option.some.injEq] at hc
            subst hc
            rw [mk1_run0 hrun] at hK
            exact wp_plain h ht hdst hr ⟨c1, hval, hR1.ofPlain hpl _⟩ hK
          · simp only [Option.some.injEq] at hc
            subst hc
            rw [mk1_run0 hrun] at hK
            have hne : r' ≠ tk dst := beq_false.1 hne
            refine view_set h ht hdst hr h1 (x := d0) (c := c1) (ad := base.map fun b => (b, d.off π)) ?_ hval (fun _ => rfl) hne hK
            unfold Sub
            simp only [h5, true_and, and_true]
            rw [e, take_drop_mid hl hR1.len]
      · cases hc
    · split at hc
      · rename_i d0 hΓ
        split at hc
        · rename_i hcond
          simp only [Bool.and_eq_true, Bool.not_eq_true'] at hcond
          obtain ⟨⟨hty, hdead⟩, hpl⟩ := hcond
          simp only [Option.some.injEq] at hc
          subst hc
          rw [mk1_run0 hrun] at hK
          have hok := h.ok (tk p)
          rw [hΓ] at hok
          obtain ⟨ad, cs, h1, h2, h3, h4⟩ := hok
          have hval := mkV_fits h4 hdead
          have hload := run_loadAt (P := C.P) (w := w) (t := t) (ad := ad) hty h4.len (fun i u hu => by
            obtain ⟨ad', e, _, hc'⟩ := h3 i u hu
            simp only [Option.some.injEq] at e
            subst e
            simpa using hc') hval
          rw [← h1] at hload
          exact wp_plain h ht hdst (hex _ _ hload) ⟨cs, hval, h4⟩ hK
        · cases hc
      · split at hc
        · rename_i k π d0 hpl
          split at hc
          · cases hc
          · rename_i hcond
            simp only [Bool.or_eq_true, Bool.not_eq_true', not_or, Bool.not_eq_false, Bool.not_eq_true] at hcond
            obtain ⟨hty, hdead⟩ := hcond
            obtain ⟨d, cs, base, c, b, off, h1, h2, h3, h4⟩ := placeOf_ok h hpl
            obtain ⟨T, hR1, hT⟩ := h.subR h1 h2
            have hval := mkV_fits hR1 hdead
            have hload := run_loadAt (P := C.P) (w := w) (t := t) (ad := ⟨b, off, none⟩) hty hR1.len (fun i u hu => by rw [add_off]; exact h2.cells h1 i u hu) hval
            rw [← h3] at hload
            have hr := hex _ _ hload
            split at hc
            · rename_i hpl2
              simp only [Option.some.injEq] at hc
              subst hc
              rw [mk1_run0 hrun, getPX_eval] at hK
              exact wp_plain h ht hdst hr ⟨c, hval, hR1.ofPlain hpl2 _⟩ hK
            · split at hc
              · cases hc
              · rename_i hne
                simp only [Option.some.injEq] at hc
                subst hc
                rw [mk1_run0 hrun] at hK
                exact view_set h ht hdst hr h1 h2 hval h4 (fun e => hne (beq_iff.2 e)) hK
        · cases hc
  · cases hc
end
end
end Go.Rsc
