/- Shared pointers: nil or not, frames, a frame that is put into its value; what is never reached. No conditions. -/
import Derived.Test.YtdkfgnnebaahaaaRscT
import Derived.Laws.Tables
namespace Go.Rsc
open Go.RowKit
set_option linter.unusedVariables false
set_option linter.unusedSimpArgs false

section
variable {P : Program} {w w' : World} {F F' : Set} {Γ : Nat → D} {σ : Nat → PV} {val : Nat → Value} {loc : Nat → Nat} {S : Nat → Set} {C : Cx} {tmps : Array Value}
variable {d d' x y : SD} {cs c : List Value} {p q : PV} {T T' : Set}
variable {a : Act} {o : Oper} {K : Act → World → Prop} {Q : Exit → Act → World → Prop} {dst : Nat} {v : Value} {I : Interp} {σ' : Nat → PV} {r : SR}

theorem run_equal_nilp {t e : TypeId} (hu : P.underlying t = some (.pointer e)) (w : World) (A : Option Addr) : (Op.equal t (.pointer A) (.pointer none)).run P w = .ok A.isNone w := by
  unfold Op.equal Op.maxDepth Op.equalIn
  rw [Sem.run_bind, run_underlying hu]
  cases A <;> rfl
theorem R.fpNil {t : TypeId} {v : Value} (h : R P w F (.fp t) [v] p T) : ∃ A, v = .pointer A ∧ (A.isNone = true ↔ p.toList.length = 0) := by
  generalize hd : SD.fp t = d at h
  generalize hc : [v] = cs at h
  cases h <;> cases hd <;> simp only [List.cons.injEq, and_true] at hc <;> subst hc
  · exact ⟨none, rfl, by simp [PV.toList]⟩
  · exact ⟨_, rfl, by simp [PV.toList]⟩
  · exact ⟨_, rfl, by simp [PV.toList]⟩
theorem cNilP_ok {op : BinOp} {xt : TypeId} {ax ay : Operand} {yt : TypeId} (h : RelX C Γ σ val loc S F a.tmps w) (ht : dst < C.nt) (hdst : o.dst = some dst) (hop : o.op = .binOp op xt ax ay yt) (hn : isNilP ay = true)
    (hc : cNilP C.P Γ dst op xt ax = some r) (hrun : r.run I σ = some σ') (hK : Cont C (apS Γ r) σ' a K) : o.wp C.P a w K Q := by
  have hay : ay = .const (.pointer none) := by
    unfold isNilP at hn
    split at hn
    · rfl
    · cases hn
  subst hay
  have e0 : evalOp a.tmps (.const (.pointer none)) = .pointer none := rfl
  have hex : ∀ {v : Value} {A : Option Addr}, evalOp a.tmps ax = .pointer A → (Go.binOp op xt (.pointer A) (.pointer none)).run C.P w = .ok v w → (execOp a.eval o).run C.P w = .ok (.value v) w := fun {v A} e1 e2 => by
    have e3 : eqGuard op xt ax (.const (.pointer none)) (.pointer A) (.pointer none) = pure () := by
      unfold eqGuard
      cases op <;> rfl
    simp [execOp, hop, evalOp_eq, e0, e1, e2, e3]
  unfold cNilP at hc
  split at hc
  · rename_i e t px hu hx
    obtain ⟨_, cs, hf, hR⟩ := plainOf_ok h hx []
    have hcs := hf.single rfl
    subst hcs
    obtain ⟨A, hA, hiff⟩ := hR.fpNil
    simp only [Option.some.injEq] at hc
    subst hc
    rw [mk1_run0 hrun] at hK
    refine wp_plain (v := .bool A.isNone) h ht hdst (hex hA ?_) ?_ hK
    · rw [show Go.binOp .eql xt (.pointer A) (.pointer none) = (do pure (.bool (← Op.equal xt (.pointer A) (.pointer none)))) from rfl, Sem.run_bind, run_equal_nilp hu]
      rfl
    · have hl : leI ((px.eval σ []).toList.length : Int) 0 = A.isNone := by
        unfold leI
        cases hb : A.isNone with
        | true => exact decide_eq_true (by have := hiff.1 hb; omega)
        | false => exact decide_eq_false fun hle => by rw [hiff.2 (by omega)] at hb; cases hb
      have : (PX.cmp .leq (.len px) (.int 0)).eval σ [] = .bool A.isNone := by rw [← hl]; rfl
      rw [this]
      exact Fits.bool _
  · rename_i e t px hu hx
    obtain ⟨_, cs, hf, hR⟩ := plainOf_ok h hx []
    have hcs := hf.single rfl
    subst hcs
    obtain ⟨A, hA, hiff⟩ := hR.fpNil
    simp only [Option.some.injEq] at hc
    subst hc
    rw [mk1_run0 hrun] at hK
    refine wp_plain (v := .bool (!A.isNone)) h ht hdst (hex hA ?_) ?_ hK
    · rw [show Go.binOp .neq xt (.pointer A) (.pointer none) = (do pure (.bool (!(← Op.equal xt (.pointer A) (.pointer none))))) from rfl, Sem.run_bind, run_equal_nilp hu]
      rfl
    · have hl : gtI ((px.eval σ []).toList.length : Int) 0 = !A.isNone := by
        unfold gtI
        cases hb : A.isNone with
        | true => exact decide_eq_false fun hle => by have := hiff.1 hb; omega
        | false => exact decide_eq_true (by
            have : (px.eval σ []).toList.length ≠ 0 := fun e => by rw [hiff.2 e] at hb; cases hb
            omega)
      have : (PX.cmp .gtr (.len px) (.int 0)).eval σ [] = .bool (!A.isNone) := by rw [← hl]; rfl
      rw [this]
      exact Fits.bool _
  · cases hc

theorem cPanic_ok (hrun : cPanic.run I σ = some σ') : False := by
  unfold cPanic SR.run at hrun
  simp [preRun, PX.eval, PV.toBool] at hrun
theorem cIface_ok {t : TypeId} {ax : Operand} (h : RelX C Γ σ val loc S F a.tmps w) (ht : dst < C.nt) (hdst : o.dst = some dst) (hop : o.op = .makeInterface t ax)
    (hc : cIface C.P Γ dst t ax = some r) (hrun : r.run I σ = some σ') (hK : Cont C (apS Γ r) σ' a K) : o.wp C.P a w K Q := by
  unfold cIface at hc
  split at hc
  · rename_i s hu
    simp only [Option.some.injEq] at hc
    subst hc
    rw [mk1_run0 hrun] at hK
    have e0 : evalOp a.tmps (.const (.string s)) = .string s := rfl
    have hr : (execOp a.eval o).run C.P w = .ok (.value (.iface t (.string s))) w := by
      simp [execOp, hop, Instr.makeInterface, run_underlying hu, evalOp_eq, e0]
    exact wp_plain h ht hdst hr ⟨_, .inr ⟨rfl, rfl⟩, .isome ..⟩ hK
  · cases hc

theorem three_built {t : TypeId} (h : three P t = true) {v0 v1 v2 : Value} (h0 : v0.cells = #[v0]) (h1 : v1.cells = #[v1]) (h2 : v2.cells = #[v2]) : P.built t [(0, v0), (1, v1), (2, v2)] = some #[v0, v1, v2] := by
  unfold three at h
  split at h
  · rename_i fs z hu hz
    obtain ⟨it, hit, hzero⟩ := Option.bind_eq_some_iff.1 hz
    simp only [Bool.and_eq_true, beq_iff] at h
    obtain ⟨hz3, h⟩ := h
    split at h
    · rename_i f g k hfs
      simp only [Bool.and_eq_true, beq_iff, List.all_cons, List.all_nil, Bool.and_true] at h
      obtain ⟨⟨⟨o0, o1⟩, o2⟩, q0, q1, q2⟩ := h
      have sz : ∀ x : Field, (match P.info? x.type with
          | some i => Nat.beq i.size 1
          | none => false) = true → ∃ i, P.info? x.type = some i ∧ i.size = 1 := by
        intro x hx
        split at hx
        · rename_i i hi; exact ⟨i, hi, beq_iff.1 hx⟩
        · cases hx
      obtain ⟨i0, e0, s0⟩ := sz f q0
      obtain ⟨i1, e1, s1⟩ := sz g q1
      obtain ⟨i2, e2, s2⟩ := sz k q2
      have hm : fs.toList.mapM (fun f => (P.info? f.type).map fun i => (f.offset, i.size)) = some [(0, 1), (1, 1), (2, 1)] := by
        rw [hfs]
        simp [e0, e1, e2, s0, s1, s2, o0, o1, o2]
      obtain ⟨z0, z1, z2, rfl⟩ : ∃ a b c, z = #[a, b, c] := by
        match z, hz3 with
        | ⟨[a, b, c]⟩, _ => exact ⟨a, b, c, rfl⟩
      unfold Program.built
      simp only [hit, hu, hzero, hm]
      have hzc : (Value.agg #[z0, z1, z2]).cells = #[z0, z1, z2] := rfl
      simp [Instr.fill, h0, h1, h2, hzc]
    · cases h
  · cases h
theorem cBuildE_ok {t : TypeId} {parts : Array (Nat × Operand)} (h : RelX C Γ σ val loc S F a.tmps w) (ht : dst < C.nt) (hdst : o.dst = some dst) (hop : o.op = .build t parts)
    (hc : cBuildE C.P Γ dst t parts.toList = some r) (hrun : r.run I σ = some σ') (hK : Cont C (apS Γ r) σ' a K) : o.wp C.P a w K Q := by
  unfold cBuildE at hc
  split at hc
  · rename_i xa q xc hparts
    split at hc
    · rename_i pa ob dc pc hx hΓ hy
      split at hc
      · rename_i hcond
        simp only [Bool.and_eq_true, beq_iff, decide_eq_true_eq, Bool.not_eq_true', beq_false] at hcond
        obtain ⟨⟨⟨⟨rfl, hcoe⟩, hsd⟩, h3⟩, hne⟩ := hcond
        simp only [Option.some.injEq] at hc
        subst hc
        rw [mk1_run0 hrun] at hK
        obtain ⟨_, cx⟩ := plainOf_ok h hx []
        obtain ⟨s, ea, epa⟩ := R.eqStr cx
        obtain ⟨_, csc, hfc, hRc⟩ := plainOf_ok h hy []
        have hRc' := hRc.coe hcoe
        have hfc' := hfc.coe hcoe
        have hcs := hfc'.single rfl
        subst hcs
        obtain ⟨A, hA, _⟩ := hRc'.fpNil
        have hok := h.ok (tk q)
        rw [hΓ] at hok
        have hp1 : evalOp a.tmps (.tmp q) = .pointer (some ⟨loc ob, 0, none⟩) := by rw [show evalOp a.tmps (.tmp q) = val (tk q) from (h.tm q).symm]; exact hok.1
        have hl : (parts.map fun (x : Nat × Operand) => (x.1, a.eval x.2)).toList = [(0, .string s), (1, .pointer (some ⟨loc ob, 0, none⟩)), (2, evalOp a.tmps xc)] := by
          rw [Array.toList_map, hparts]
          simp only [List.map_cons, List.map_nil, evalOp_eq, ea, hp1]
        have hbuilt := three_built (P := C.P) h3 (v0 := .string s) (v1 := .pointer (some ⟨loc ob, 0, none⟩)) (v2 := evalOp a.tmps xc) rfl rfl (by rw [hA]; rfl)
        have hr : (execOp a.eval o).run C.P w = .ok (.value (.agg #[.string s, .pointer (some ⟨loc ob, 0, none⟩), evalOp a.tmps xc])) w := by
          have hb := run_build (P := C.P) w cycE (parts.map fun (x : Nat × Operand) => (x.1, a.eval x.2)) _ (by rw [hl]; exact hbuilt)
          simp only [execOp, hop, Sem.run_bind, hb, Result.andThen_ok]
          rfl
        refine wp_set1 (x := .eb ob) (p := .agg [.str s, .unit, pc.eval σ []]) h ht hdst hr ?_ (by
          have : (PX.acons pa (.acons .unit (.acons pc .anil))).eval σ [] = .agg [.str s, .unit, pc.eval σ []] := by simp [PX.eval, epa, PV.toAgg]
          rw [← this]; exact hK)
        exact ⟨s, evalOp a.tmps xc, pc.eval σ [], by rw [updF_same], hRc', by rw [updF_same]⟩
      · cases hc
    · cases hc
  · cases hc
theorem cBoxE_ok {t : TypeId} {ax : Operand} (h : RelX C Γ σ val loc S F a.tmps w) (ht : dst < C.nt) (hdst : o.dst = some dst) (hop : o.op = .box t ax)
    (hc : cBoxE Γ dst t ax = some r) (hrun : r.run I σ = some σ') (hK : Cont C (apS Γ r) σ' a K) : o.wp C.P a w K Q := by
  have hr : (execOp a.eval o).run C.P w = .ok (.value (.pointer (some ⟨w.heap.size, 0, none⟩))) (w.alloc (.cells (evalOp a.tmps ax).cells t)) := by
    simp [execOp, hop, Instr.box, run_newVar, evalOp_eq]
  unfold cBoxE at hc
  split at hc
  · rename_i q
    split at hc
    · rename_i ob hΓ
      split at hc
      · rename_i hcond
        simp only [Bool.and_eq_true, beq_iff, Bool.not_eq_true', beq_false] at hcond
        obtain ⟨⟨rfl, hne1⟩, hne2⟩ := hcond
        simp only [Option.some.injEq] at hc
        subst hc
        obtain ⟨_, rfl⟩ := sr_run (chk := []) (pre := []) hrun
        have hok := h.ok (tk q)
        rw [hΓ] at hok
        obtain ⟨s, u, pu, h1, h2, h3⟩ := hok
        have hev : evalOp a.tmps (.tmp q) = .agg #[.string s, .pointer (some ⟨loc ob, 0, none⟩), u] := by rw [show evalOp a.tmps (.tmp q) = val (tk q) from (h.tm q).symm]; exact h1
        have hcells : (evalOp a.tmps (.tmp q)).cells = #[.string s, .pointer (some ⟨loc ob, 0, none⟩), u] := by rw [hev]; rfl
        have e : setAll (preRun [] σ) [] [(bk dst, PX.k (tk q)), (tk dst, .unit)] = updF (updF σ (tk dst) .unit) (bk dst) (σ (tk q)) := by rw [setAll_two]; rfl
        refine wp_val hdst hr (hK _ _ ?_ rfl)
        rw [e]
        refine ⟨_, _, _, _, h.newBox (p := σ (tk q)) ht (ks := []) (by simp) (g := .ebx ob) ?_⟩
        refine ⟨s, u, pu, ?_, by rw [updF_same]; simp, ?_, by rw [updF_same]; exact h3⟩
        · rw [updF_same, updF_ne _ _ hne2, hcells]
          exact heap_alloc_new w _
        · exact h2.imp (fun _ h => h) (fun _ h => h) (fun b hb => heap_alloc_old w _ b (hb.elim (h.fz b) fun h => h.elim))
      · cases hc
    · cases hc
  · cases hc
/-- The frame is put into the value: both are shared from here on. -/
theorem cStoreR_ok {t : TypeId} {ap ax : Operand} (h : RelX C Γ σ val loc S F a.tmps w) (hdst : o.dst = none) (hop : o.op = .store t ap ax)
    (hc : cStoreR C.P Γ t ap ax = some r) (hrun : r.run I σ = some σ') (hK : Cont C (apS Γ r) σ' a K) : o.wp C.P a w K Q := by
  unfold cStoreR at hc
  split at hc
  · rename_i p q
    split at hc
    · rename_i of j oe hΓp hΓq
      split at hc
      · rename_i t' d of' hΓf hΓe
        split at hc
        · rename_i hcond
          simp only [Bool.and_eq_true, beq_iff, decide_eq_true_eq, Bool.not_eq_true', beq_false] at hcond
          obtain ⟨⟨⟨⟨⟨⟨⟨⟨⟨⟨⟨rfl, rfl⟩, rfl⟩, hty⟩, hcoe⟩, hone⟩, hoff⟩, hsd⟩, hnth⟩, hn1⟩, hn2⟩, hn3⟩ := hcond
          simp only [Option.some.injEq] at hc
          subst hc
          obtain ⟨_, rfl⟩ := sr_run (chk := []) (pre := []) hrun
          -- what is known
          have hokp := h.ok (tk p)
          rw [hΓp] at hokp
          obtain ⟨⟨d0, cs, base, x, c, b, off, r1, r2, r3⟩, _⟩ := hokp
          have hokq := h.ok (tk q)
          rw [hΓq] at hokq
          have hoke := h.ok oe
          rw [hΓe] at hoke
          obtain ⟨s, u, pu, e1, e2, e3, e4⟩ := hoke
          have hokf := h.ok of
          rw [hΓf] at hokf
          obtain ⟨arr, T, f1, f2, f3, f4⟩ := hokf
          obtain ⟨hd0, hcs, hbase⟩ : d0 = d ∧ cs = arr.toList ∧ base = some (loc of) := by
            rcases r1 with ⟨a1, _⟩ | ⟨ty, arr0, a1, a2, a3, a4, a5⟩
            · rw [hΓf] at a1; cases a1
            · rw [hΓf] at a1
              simp only [D.box.injEq] at a1
              rw [f1] at a2
              simp only [Option.some.injEq, Obj.cells.injEq, and_true] at a2
              exact ⟨a1.2.symm, by rw [a4, ← a2.1], a5⟩
          subst hd0
          subst hcs
          subst hbase
          obtain ⟨t1, t2, t3⟩ := r2.top
          simp only [Option.map_some, Option.some.injEq, Prod.mk.injEq] at t3
          obtain ⟨rfl, rfl⟩ := t3
          have hx : d0.nth cycJ = some x := by
            simp only [SD.get] at t1
            cases hq : d0.nth cycJ with
            | none => rw [hq] at t1; cases t1
            | some y => rw [hq] at t1; simpa [SD.get] using t1
          have hxs : x.sz = 1 := by rw [hx] at hone; simpa using hone
          have hoffj : d0.off [cycJ] = d0.offN cycJ := by simp [SD.off, hx]
          rw [hoffj] at r3
          obtain ⟨pre, c1, post, T1, ecs, hlen, hR1, hT1, wand⟩ := R.focus [cycJ] f4 t1
          rw [hoffj] at hlen
          have hl1 : c1.length = 1 := by rw [hR1.len, hxs]
          have hne : loc of ≠ loc oe := fun e => hn1 (h.dj _ _ _ f2 (by rw [e]; exact e2))
          -- the step
          have hev1 : a.eval (.tmp p) = .pointer (some ⟨loc of, d0.offN cycJ, none⟩) := by rw [← r3]; exact (h.tm p).symm
          have hev2 : evalOp a.tmps (.tmp q) = .pointer (some ⟨loc oe, 0, none⟩) := by rw [show evalOp a.tmps (.tmp q) = val (tk q) from (h.tm q).symm]; exact hokq.1
          have hcells : (Value.pointer (some ⟨loc oe, 0, none⟩)).cells.toList = [.pointer (some ⟨loc oe, 0, none⟩)] := rfl
          have hst := run_storeAt (P := C.P) (w := w) (t := t) (v := .pointer (some ⟨loc oe, 0, none⟩)) (o := d0.offN cycJ) f1 hty hcells rfl (by
            rw [← Array.length_toList, ecs, ← hlen]; simp; omega) (fun u hu => by simp only [List.mem_singleton] at hu; subst hu; rfl)
          have hex : (execOp a.eval o).run C.P w = .ok .skip (wrote w (loc of) (d0.offN cycJ) arr [.pointer (some ⟨loc oe, 0, none⟩)]) := by
            simp [execOp, hop, hev1, evalOp_eq, hev2, hst]
          have hwr := wrote_self (w := w) (o := d0.offN cycJ) (vs := [.pointer (some ⟨loc oe, 0, none⟩)]) f1
          rw [mid_toList ecs hlen hl1 rfl] at hwr
          generalize hw' : wrote w (loc of) (d0.offN cycJ) arr [.pointer (some ⟨loc oe, 0, none⟩)] = w' at hex hwr
          have hoth : ∀ b, b ≠ loc of → w'.heap[b]? = w.heap[b]? := fun b hb => by rw [← hw']; exact wrote_other hb
          have hsize : w'.heap.size = w.heap.size := by rw [← hw']; simp [wrote]
          have hos : w'.os = w.os := by rw [← hw']; rfl
          have htape : w'.tape = w.tape := by rw [← hw']; rfl
          have hout : w'.output = w.output := by rw [← hw']; rfl
          refine upon_skip0 hdst hex (hK _ _ ?_ rfl)
          -- what is only read, from here on
          let F2 : Set := fun b => F b ∨ S of b ∨ S oe b
          have hF2 : ∀ b, F b → F2 b := fun b hb => .inl hb
          have hR2 : R C.P w' F2 ((sdOf C.P cycV).put [cycJ] (.dead 1)) (pre ++ [.pointer (some ⟨loc oe, 0, none⟩)] ++ post) ((σ of).put [cycJ] .unit) Set.none := by
            have h1 := wand (w' := w') (F' := F) (x' := .dead 1) (c1' := [.pointer (some ⟨loc oe, 0, none⟩)]) (q := .unit) (S1' := Set.none) (fun b hb => hb) (fun b hb => hoth b fun e => by
              subst e
              rcases hb with hb | hb
              · exact h.sF _ _ f2 hb
              · exact (f3 _ hb.1).2 rfl) (.dead 1 _ _ _ rfl) (fun b hb _ => hb.elim)
            refine (h1.toRo (F' := F2) hF2 fun b hb => ?_).coe hcoe
            rcases hb with hb | hb
            · exact .inr (.inl (f3 b hb.1).1)
            · exact hb.elim
          have hRu : R C.P w' F2 (.fp cycE) [u] pu Set.none := e3.imp hF2 (fun _ h => h) (fun b hb => hoth b fun e => by
            subst e
            rcases hb with hb | hb
            · exact h.sF _ _ f2 hb
            · exact hb.elim)
          have hcell : (pre ++ [.pointer (some ⟨loc oe, 0, none⟩)] ++ post)[(sdOf C.P cycV).offN cycJ]? = some (.pointer (some ⟨loc oe, 0, none⟩)) := by
            rw [← hoff, ← hlen, List.append_assoc, List.getElem?_append_right (Nat.le_refl _), Nat.sub_self]; rfl
          have hE : R C.P w' F2 (.fp cycE) [.pointer (some ⟨loc oe, 0, none⟩)] (.list [.agg [.str s, .agg [(σ of).put [cycJ] .unit], pu]]) Set.none :=
            .frec (loc oe) (loc of) s u pu _ _ _ ⟨hsd, hnth⟩ (by rw [hoth _ (Ne.symm hne)]; exact e1) hwr (.inr (.inr e2)) (.inr (.inl f2)) hRu (by simpa using hR2) (by simpa using hcell)
          have pE : (recE oe of).eval σ [] = .list [.agg [.str s, .agg [(σ of).put [cycJ] .unit], pu]] := by
            simp only [recE, PX.eval, e4, PV.toList, PV.toAgg, PV.put, PV.setFld, List.set_cons_succ, List.set_cons_zero]
          have hV : R C.P w' F2 (.fp cycV) [.pointer (some ⟨loc of, 0, none⟩)] (.list [((σ of).put [cycJ] .unit).put [cycJ] (.list [.agg [.str s, .agg [(σ of).put [cycJ] .unit], pu]])]) Set.none := by
            refine .fp cycV (loc of) _ _ _ hwr (.inr (.inl f2)) ?_
            have := R.revive (p := (σ of).put [cycJ] .unit) hR2 hnth hcell hE
            rw [show (pre ++ [Value.pointer (some ⟨loc oe, 0, none⟩)] ++ post).toArray.toList = pre ++ [Value.pointer (some ⟨loc oe, 0, none⟩)] ++ post from rfl]
            exact this
          have pV : (PX.lcons (.put (.put (.k of) [cycJ] .unit) [cycJ] (recE oe of)) .lnil).eval σ [] = .list [((σ of).put [cycJ] .unit).put [cycJ] (.list [.agg [.str s, .agg [(σ of).put [cycJ] .unit], pu]])] := by
            simp only [PX.eval, pE, PV.toList]
          show Rel C (Rsc.ap Γ [(tk q, .v (.fp cycE)), (oe, .none), (of, .fb cycV)] [] []) (setAll σ [] [(tk q, recE oe of), (of, .lcons (.put (.put (.k of) [cycJ] .unit) [cycJ] (recE oe of)) .lnil)]) _ _
          rw [setAll_two, pE, pV]
          have lk : ∀ {k : Nat} {z : D}, look [(tk q, D.v (.fp cycE)), (oe, D.none), (of, D.fb cycV)] k = some z → (k = tk q ∧ z = .v (.fp cycE)) ∨ (k = oe ∧ z = .none) ∨ (k = of ∧ z = .fb cycV) := by
            intro k z hz
            simp only [look_cons, look_nil] at hz
            split at hz
            · rename_i e; exact .inl ⟨e, by simpa using hz.symm⟩
            · split at hz
              · rename_i e; exact .inr (.inl ⟨e, by simpa using hz.symm⟩)
              · split at hz
                · rename_i e; exact .inr (.inr ⟨e, by simpa using hz.symm⟩)
                · cases hz
          have le : look [(tk q, D.v (.fp cycE)), (oe, D.none), (of, D.fb cycV)] oe = some .none := by rw [look_cons, if_neg hn3, look_cons, if_pos rfl]
          have lf : look [(tk q, D.v (.fp cycE)), (oe, D.none), (of, D.fb cycV)] of = some (.fb cycV) := by rw [look_cons, if_neg hn2, look_cons, if_neg hn1, look_cons, if_pos rfl]
          have lq : look [(tk q, D.v (.fp cycE)), (oe, D.none), (of, D.fb cycV)] (tk q) = some (.v (.fp cycE)) := by rw [look_cons, if_pos rfl]
          refine ⟨val, loc, fun k => if k = tk q ∨ k = oe ∨ k = of then Set.none else S k, F2, ?_⟩
          have hem : ∀ {k : Nat} {z : D} {b : Nat}, look [(tk q, D.v (.fp cycE)), (oe, D.none), (of, D.fb cycV)] k = some z → (if k = tk q ∨ k = oe ∨ k = of then Set.none else S k) b → False := by
            intro k z b hz hb
            have : k = tk q ∨ k = oe ∨ k = of := (lk hz).imp And.left fun h => h.imp And.left And.left
            rw [if_pos this] at hb
            exact hb
          refine h.appG _ [] [] (fun k hk => ?_) (fun k x _ _ => ⟨rfl, rfl⟩) (fun o x _ hm => by simp [mem_nil] at hm) (fun k _ => ⟨rfl, rfl⟩) h.n h.tm hF2 (fun b hb => ?_) (fun b hb => ?_) (fun b hb hs => ?_) hos htape hout (by rw [hsize]; exact Nat.le_refl _)
            (fun k x b hk hs => (hem hk hs).elim) (fun k x b hk hs => (hem hk hs).elim) (fun k x k' x' b hk hk' hs hs' => (hem hk hs).elim) (fun k x b hk hs hf => hem hk hs) (fun k x hk => ?_)
          · have a1 : k ≠ tk q := fun e => by rw [e, lq] at hk; cases hk
            have a2 : k ≠ oe := fun e => by rw [e, le] at hk; cases hk
            have a3 : k ≠ of := fun e => by rw [e, lf] at hk; cases hk
            exact ⟨by rw [updF_ne _ _ a1, updF_ne _ _ a3], rfl, rfl, by rw [if_neg (by simp [a1, a2, a3])]⟩
          · rcases hb with hb | hb | hb
            · exact .inl hb
            · exact .inr (.inl ⟨of, _, lf, hb⟩)
            · exact .inr (.inl ⟨oe, _, le, hb⟩)
          · rw [hsize]
            rcases hb with hb | hb | hb
            · exact h.fz _ hb
            · exact h.sz _ _ hb
            · exact h.sz _ _ hb
          · exact hoth b fun e => by subst e; exact hs of _ lf f2
          · rcases lk hk with ⟨rfl, rfl⟩ | ⟨rfl, rfl⟩ | ⟨rfl, rfl⟩
            · refine ⟨[.pointer (some ⟨loc oe, 0, none⟩)], .inr ⟨rfl, by rw [hokq.1]⟩, ?_⟩
              rw [updF_same]
              exact hE.wide fun b hb => hb.elim
            · trivial
            · show R _ _ _ _ [.pointer (some ⟨loc k, 0, none⟩)] _ _
              rw [updF_ne _ _ hn2, updF_same]
              exact hV
        · cases hc
      · cases hc
    · cases hc
  · cases hc
end
end Go.Rsc
