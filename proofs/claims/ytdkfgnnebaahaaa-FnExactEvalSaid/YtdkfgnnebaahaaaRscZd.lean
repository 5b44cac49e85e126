/- One operation. No conditions. -/
import Derived.Test.YtdkfgnnebaahaaaRscZc
namespace Go.Rsc
open Go.RowKit
set_option linter.unusedVariables false
set_option linter.unusedSimpArgs false

/-- All functions of a table are held to their contracts. -/
def Good (P : Program) (sg : FuncId → Option Sig) (I : Interp) : Prop := ∀ f s as os, sg f = some s → I f as = some os → Ctr P s (f % 4096) as os

section
variable {w w' : World} {F : Set} {Γ : Nat → D} {σ σ' : Nat → PV} {val : Nat → Value} {loc : Nat → Nat} {S : Nat → Set} {C : Cx} {tmps tmps' : Array Value}
variable {a : Act} {o : Oper} {K : Act → World → Prop} {Q : Exit → Act → World → Prop} {dst : Option Nat} {I : Interp} {r : SR} {sg : FuncId → Option Sig}

theorem kind_mod {f : FuncId} (j : Nat) (hf : f < 4096) : (f + 4096 * j) % 4096 = f := by
  rw [Nat.add_mul_mod_self_left]
  exact Nat.mod_eq_of_lt hf
theorem run_enter {P : Program} {f : FuncId} {args : Array Value} (h : bodyOk P f = true) (hf : f % 4096 = f) : (callFunc f args).run P w = .ok (.enter f args) w := by
  unfold bodyOk at h
  rw [hf] at h
  unfold callFunc
  cases hfn : P.funcs[f]? with
  | none => rw [hfn] at h; cases h
  | some fn =>
    rw [hfn] at h
    simp only [Bool.and_eq_true, bne_iff_ne, ne_eq] at h
    obtain ⟨b, hb⟩ := Option.isSome_iff_exists.1 h.1
    simp [hfn, h.2, hb]

theorem cCall_ok {j b : Nat} {cl : Call} {f : FuncId} {args : List Src} (h : RelX C Γ σ val loc S F a.tmps w) (hdst : o.dst = dst) (hdt : ∀ d, dst = some d → d < C.nt) (hop : o.op = .call cl) (hf : f < 4096)
    (hr : bodyOk C.P f = true → (execOp a.eval o).run C.P w = .ok (.enter f (args.map (srcV a.tmps val)).toArray) w)
    (hc : cCall j b C.P sg Γ dst f args = some r) (hI : Good C.P sg I) (hrun : r.run I σ = some σ') (hK : Cont C (apS Γ r) σ' a K) : o.wp C.P a w K Q := by
  unfold cCall at hc
  have hm := kind_mod j hf
  split at hc
  · rename_i s hs
    refine cCall1_ok h hdst hdt (fun hb => ?_) hc (fun as os => hI _ s as os hs) hrun hK
    rw [hm]
    refine hr ?_
    unfold bodyOk at hb ⊢
    rw [Nat.mod_eq_of_lt hf]
    rwa [hm] at hb
  · cases hc

theorem cop_ok {j b : Nat} (h : RelX C Γ σ val loc S F a.tmps w) (hdt : ∀ d, o.dst = some d → d < C.nt) (hc : cop j b C.P sg Γ o = some r) (hI : Good C.P sg I) (hrun : r.run I σ = some σ') (hK : Cont C (apS Γ r) σ' a K) : o.wp C.P a w K Q := by
  unfold cop at hc
  split at hc
  · rename_i e1 e2; exact cMove_ok h (hdt _ e2) e2 (.inl e1) hc hrun hK
  · rename_i e1 e2; exact cAssign_ok h (hdt _ e2) e2 e1 hc hrun hK
  · rename_i e1 e2; exact cPick_ok h (hdt _ e2) e2 e1 hc hrun hK
  · rename_i e1 e2; exact cAlloc_ok h (hdt _ e2) e2 e1 hc hrun hK
  · rename_i e1 e2
    split at hc
    · rename_i r0 hr0
      simp only [Option.some.injEq] at hc
      subst hc
      exact cBox_ok h (hdt _ e2) e2 e1 hr0 hrun hK
    · exact cBoxE_ok h (hdt _ e2) e2 e1 hc hrun hK
  · rename_i e1 e2
    split at hc
    · rename_i r0 hr0
      simp only [Option.some.injEq] at hc
      subst hc
      exact cBuild_ok h (hdt _ e2) e2 e1 hr0 hrun hK
    · exact cBuildE_ok h (hdt _ e2) e2 e1 hc hrun hK
  · rename_i e1 e2; exact cIface_ok h (hdt _ e2) e2 e1 hc hrun hK
  · rename_i e1 e2
    simp only [Option.some.injEq] at hc
    subst hc
    exact (cPanic_ok hrun).elim
  · rename_i e1 e2; exact cBuildSlice_ok h (hdt _ e2) e2 e1 hc hrun hK
  · rename_i e1 e2; exact cLoad_ok h (hdt _ e2) e2 e1 hc hrun hK
  · rename_i e1 e2
    split at hc
    · rename_i r0 hr0
      simp only [Option.some.injEq] at hc
      subst hc
      exact cStoreE_ok h e2 e1 hr0 hrun hK
    · split at hc
      · rename_i r0 hr0
        simp only [Option.some.injEq] at hc
        subst hc
        exact cStore_ok h e2 e1 hr0 hrun hK
      · exact cStoreR_ok h e2 e1 hc hrun hK
  · rename_i e1 e2; exact cNil_ok h (hdt _ e2) e2 e1 hc hrun hK
  · rename_i e1 e2
    split at hc
    · rename_i hn; exact cIsNil_ok h (hdt _ e2) e2 e1 hn hc hrun hK
    · split at hc
      · rename_i hn; exact cNilP_ok h (hdt _ e2) e2 e1 hn hc hrun hK
      · exact cBin_ok h (hdt _ e2) e2 e1 hc hrun hK
  · rename_i e1 e2; exact cUn_ok h (hdt _ e2) e2 e1 hc hrun hK
  · rename_i e1 e2
    split at hc
    · exact cS2B_ok h (hdt _ e2) e2 e1 hc hrun hK
    · exact cConvert_ok h (hdt _ e2) e2 e1 hc hrun hK
  · rename_i e1 e2; exact cMakeFunc_ok h (hdt _ e2) e2 e1 hc hrun hK
  · rename_i e1 e2; exact cMakeSlice_ok h (hdt _ e2) e2 e1 hc hrun hK
  · rename_i e1 e2; exact cMakeMap_ok h (hdt _ e2) e2 e1 hc hrun hK
  · rename_i e1 e2; exact cLookup_ok h (hdt _ e2) e2 e1 hc hrun hK
  · rename_i e1 e2; exact cMapUpd_ok h e2 e1 hc hrun hK
  · rename_i e1 e2; exact cSlice_ok h (hdt _ e2) e2 e1 hc hrun hK
  · rename_i e1 e2; exact cFieldAddr_ok h (hdt _ e2) e2 e1 hc hrun hK
  · rename_i e1 e2; exact cField_ok h (hdt _ e2) e2 e1 hc hrun hK
  · rename_i e1 e2; exact cIndexAddr_ok h (hdt _ e2) e2 e1 hc hrun hK
  · rename_i e1 e2; exact cIndex_ok h (hdt _ e2) e2 e1 hc hrun hK
  · rename_i e1 e2; exact cExtract_ok h (hdt _ e2) e2 e1 hc hrun hK
  · rename_i cl e1
    split at hc
    · rename_i ax ec ea
      cases hd : o.dst with
      | none => rw [hd] at hc; cases hc
      | some d =>
        rw [hd] at hc
        obtain ⟨px, hpx, rfl⟩ := Option.map_eq_some_iff.1 hc
        obtain ⟨bb, h1, h2⟩ := Option.bind_eq_some_iff.1 hpx
        exact cLen_ok h (hdt _ hd) hd e1 ec ea h1 h2 hrun hK
    · rename_i as ax ec ea
      cases hd : o.dst with
      | none => rw [hd] at hc; cases hc
      | some d =>
        rw [hd] at hc
        simp only at hc
        split at hc
        · rename_i r0 hr0
          simp only [Option.some.injEq] at hc
          subst hc
          exact cAppE_ok h (hdt _ hd) hd e1 ec ea hr0 hrun hK
        · split at hc
          · exact cAppend_ok h (hdt _ hd) hd e1 ec ea hc hrun hK
          · exact cAppendS_ok h (hdt _ hd) hd e1 ec ea hc hrun hK
    · rename_i ad ax ec ea
      cases hd : o.dst with
      | none => rw [hd] at hc; cases hc
      | some d =>
        rw [hd] at hc
        exact cCopy_ok h (hdt _ hd) hd e1 ec ea hc hrun hK
    · rename_i ax ay ec ea
      cases hd : o.dst with
      | none => rw [hd] at hc; cases hc
      | some d =>
        rw [hd] at hc
        exact cMin_ok h (hdt _ hd) hd e1 ec ea hc hrun hK
    · rename_i f ec
      split at hc
      · rename_i hlt
        have hf : f < 4096 := Nat.le_of_ble_eq_true hlt
        refine cCall_ok h rfl hdt e1 hf (fun hb => ?_) hc hI hrun hK
        have hargs : (cl.args.map a.eval) = ((cl.args.toList.map Src.op).map (srcV a.tmps val)).toArray := by
          apply Array.ext'
          simp [srcV, evalOp_eq, Function.comp_def]
        have hres : (resolve a.eval cl o.type).run C.P w = .ok { target := .fn (.func f) #[], args := cl.args.map a.eval } w := by
          unfold resolve
          rw [ec]
          show (Deferred.ofValue (.func (.func f) #[] #[]) (cl.args.map a.eval)).run C.P w = _
          simp [Deferred.ofValue]
        have := run_enter (w := w) (args := cl.args.map a.eval) hb (Nat.mod_eq_of_lt hf)
        rw [← hargs]
        simp only [execOp, e1, Sem.run_bind, hres, Result.andThen_ok, invoke, Array.append_empty, this]
      · cases hc
    · rename_i t ec
      split at hc
      · rename_i f ks hΓ
        split at hc
        · rename_i hlt
          have hf : f < 4096 := Nat.le_of_ble_eq_true hlt
          refine cCall_ok h rfl hdt e1 hf (fun hb => ?_) hc hI hrun hK
          have hok := h.ok (tk t)
          rw [hΓ] at hok
          have hev : a.eval (.tmp t) = .func (.func f) #[] (ks.map val).toArray := by rw [evalOp_eq, ← hok.1]; exact (h.tm t).symm
          have hargs : (cl.args.map a.eval) ++ (ks.map val).toArray = (((cl.args.toList.map Src.op) ++ ks.map Src.key).map (srcV a.tmps val)).toArray := by
            apply Array.ext'
            simp [srcV, evalOp_eq, Function.comp_def]
          have hres : (resolve a.eval cl o.type).run C.P w = .ok { target := .fn (.func f) (ks.map val).toArray, args := cl.args.map a.eval } w := by
            unfold resolve
            rw [ec]
            simp only
            rw [hev]
            simp [Deferred.ofValue]
          have := run_enter (w := w) (args := cl.args.map a.eval ++ (ks.map val).toArray) hb (Nat.mod_eq_of_lt hf)
          rw [← hargs]
          simp only [execOp, e1, Sem.run_bind, hres, Result.andThen_ok, invoke, this]
        · cases hc
      · cases hc
    · cases hc
  · cases hc
theorem SD.lo_sz : ∀ d : SD, d.lo.sz = d.sz
  | .sc d ds => by simp only [SD.lo, SD.sz, SD.lo_sz d, SD.lo_sz ds]
  | .own _ _ | .dead _ | .int _ | .bool | .str | .bor _ | .nl | .mz | .mp _ | .sb _ | .ifc | .np | .fp _ | .sn => rfl
theorem SD.lo_agg : ∀ d : SD, d.lo.isAgg = d.isAgg
  | .sc d ds | .own _ _ | .dead _ | .int _ | .bool | .str | .bor _ | .nl | .mz | .mp _ | .sb _ | .ifc | .np | .fp _ | .sn => rfl
theorem SD.lo_nth : ∀ (d : SD) (i : Nat), d.lo.nth i = (d.nth i).map SD.lo
  | .sc d ds, 0 => rfl
  | .sc d ds, i + 1 => SD.lo_nth ds i
  | .own _ _, _ | .dead _, _ | .int _, _ | .bool, _ | .str, _ | .bor _, _ | .nl, _ | .mz, _ | .mp _, _ | .sb _, _ | .ifc, _ | .np, _ | .fp _, _ | .sn, _ => rfl
theorem SD.lo_offN : ∀ (d : SD) (i : Nat), d.lo.offN i = d.offN i
  | .sc d ds, 0 => rfl
  | .sc d ds, i + 1 => by simp only [SD.lo, SD.offN, SD.lo_sz, SD.lo_offN ds i]
  | .own _ _, _ | .dead _, _ | .int _, _ | .bool, _ | .str, _ | .bor _, _ | .nl, _ | .mz, _ | .mp _, _ | .sb _, _ | .ifc, _ | .np, _ | .fp _, _ | .sn, _ => rfl
theorem SD.lo_get : ∀ (π : List Nat) (d : SD), d.lo.get π = (d.get π).map SD.lo
  | [], d => rfl
  | i :: π, d => by
    simp only [SD.get, SD.lo_nth]
    cases d.nth i with
    | none => rfl
    | some x => exact SD.lo_get π x
theorem SD.lo_off : ∀ (π : List Nat) (d : SD), d.lo.off π = d.off π
  | [], d => rfl
  | i :: π, d => by
    simp only [SD.off, SD.lo_nth, SD.lo_offN]
    cases d.nth i with
    | none => rfl
    | some x => simp only [Option.map_some, SD.lo_off π x]
/-- Half of what is owned moves to what is only read. -/
theorem R.toLo {P : Program} {w : World} {F S : Set} {d : SD} {cs : List Value} {p : PV} (h : R P w F d cs p S) : ∃ S' : Set, (∀ b, S' b → S b) ∧ ∀ {F' : Set}, (∀ b, F b → F' b) → (∀ b, S b → ¬ S' b → F' b) → R P w F' d.lo cs p S' := by
  induction h with
  | own e m b n c arr ps S Ss h1 h2 h3 h4 h5 h6 h7 h8 h9 h10 h11 ih =>
    have hd : (el P m e).ro = el P false e := sdT_ro P m 8 e
    have hsz : (el P false e).sz = (el P m e).sz := by rw [← hd, SD.ro_sz]
    refine ⟨fun x => x = b, fun x hx => by rw [hx]; exact h7, fun {F'} hF hS => ?_⟩
    refine .own e false b n c arr ps _ (fun _ => Set.none) h1 h2 h3 (by rw [hsz]; exact h4) h5 (by rw [hsz]; exact h6) rfl (fun _ _ h => h.elim) (fun _ _ h => h.elim) (fun _ _ _ h => h.elim) fun j p hp => ?_
    rw [hsz, ← hd]
    exact (h11 j p hp).toRo hF fun x hx => hS _ (h8 j x hx) (h9 j x hx)
  | onil e m S => exact ⟨S, fun _ h => h, fun _ _ => .onil ..⟩
  | sc d ds c cs p ps S S1 S2 h1 h2 h3 h4 h5 ih1 ih2 =>
    obtain ⟨T1, a1, a2⟩ := ih1
    obtain ⟨T2, b1, b2⟩ := ih2
    refine ⟨fun x => T1 x ∨ T2 x, fun x hx => hx.elim (fun h => h3 _ (a1 x h)) (fun h => h4 _ (b1 x h)), fun {F'} hF hS => ?_⟩
    exact .sc d.lo ds.lo c cs p ps _ T1 T2 (a2 hF fun x hx hn => hS _ (h3 x hx) fun hh => hh.elim hn fun h => h5 x hx (b1 x h)) (b2 hF fun x hx hn => hS _ (h4 x hx) fun hh => hh.elim (fun h => h5 x (a1 x h) hx) hn)
      (fun _ h => .inl h) (fun _ h => .inr h) (fun x h h' => h5 x (a1 x h) (b1 x h'))
  | int k n S => exact ⟨S, fun _ h => h, fun _ _ => .int ..⟩
  | bool b S => exact ⟨S, fun _ h => h, fun _ _ => .bool ..⟩
  | str s S => exact ⟨S, fun _ h => h, fun _ _ => .str ..⟩
  | dead n cs p S h => exact ⟨S, fun _ h => h, fun _ _ => .dead _ _ _ _ h⟩
  | bor e A n c ps S css h1 h2 h3 h4 h5 ih => exact ⟨S, fun _ h => h, fun hF _ => (R.bor (P := P) (w := w) (F := F) e A n c ps S css h1 h2 h3 h4 h5).more hF⟩
  | nl S => exact ⟨S, fun _ h => h, fun _ _ => .nl _⟩
  | mz S => exact ⟨S, fun _ h => h, fun _ _ => .mz _⟩
  | mp vb b es clk ps S h1 h2 h3 => exact ⟨S, fun _ h => h, fun _ _ => .mp vb b es clk ps S h1 h2 h3⟩
  | sb e b n c arr fr ps S h1 h2 h3 h4 h5 h6 h7 h8 h9 => exact ⟨S, fun _ h => h, fun _ _ => .sb e b n c arr fr ps S h1 h2 h3 h4 h5 h6 h7 h8 h9⟩
  | inil S => exact ⟨S, fun _ h => h, fun _ _ => .inil _⟩
  | isome t v S => exact ⟨S, fun _ h => h, fun _ _ => .isome ..⟩
  | np S => exact ⟨S, fun _ h => h, fun _ _ => .np _⟩
  | fnil t S => exact ⟨S, fun _ h => h, fun _ _ => .fnil ..⟩
  | fp t b arr p S h1 h2 h3 ih => exact ⟨S, fun _ h => h, fun hF _ => (R.fp (P := P) (w := w) (F := F) t b arr p S h1 h2 h3).more hF⟩
  | frec b c s u pu arrV pV S h0 h1 h2 h3 h4 h5 h6 h7 ih1 ih2 => exact ⟨S, fun _ h => h, fun hF _ => (R.frec (P := P) (w := w) (F := F) b c s u pu arrV pV S h0 h1 h2 h3 h4 h5 h6 h7).more hF⟩
  | sn S => exact ⟨S, fun _ h => h, fun _ _ => .sn _⟩
theorem Fits.lo {d : SD} {v : Value} {cs : List Value} (h : Fits d v cs) : Fits d.lo v cs := by
  unfold Fits at h ⊢
  rwa [SD.lo_agg]
/-- Wholly or half. -/
def Fz (d d' : SD) : Prop := d' = d.ro ∨ d' = d.lo ∨ d' = d
theorem Fz.fits {d d' : SD} {v : Value} {cs : List Value} (hz : Fz d d') (h : Fits d v cs) : Fits d' v cs := by
  rcases hz with rfl | rfl | rfl
  · exact h.ro
  · exact h.lo
  · exact h
theorem Fz.get {P : Program} {w : World} {F S : Set} {d d' : SD} {cs : List Value} {p : PV} (hz : Fz d d') (h : R P w F d cs p S) : ∃ S' : Set, (∀ b, S' b → S b) ∧ ∀ {F' : Set}, (∀ b, F b → F' b) → (∀ b, S b → ¬ S' b → F' b) → R P w F' d' cs p S' := by
  rcases hz with rfl | rfl | rfl
  · exact ⟨Set.none, fun _ h => h.elim, fun hF hS => h.toRo hF fun b hb => hS b hb fun h => h⟩
  · exact h.toLo
  · exact ⟨S, fun _ h => h, fun hF _ => h.more hF⟩
/-- A value of one's own is frozen, wholly or half. -/
theorem RelX.frz (h : RelX C Γ σ val loc S F tmps w) {k : Nat} {d d' : SD} (hΓ : Γ k = .v d) (hz : Fz d d') : ∃ S' F', RelX C (ap Γ [(k, .v d')] [] []) σ val loc S' F' tmps w := by
  have hok := h.ok k
  rw [hΓ] at hok
  obtain ⟨cs, hf, hR⟩ := hok
  obtain ⟨S1, g1, g2⟩ := hz.get hR
  refine ⟨updF S k S1, fun b => F b ∨ (S k b ∧ ¬ S1 b), ?_⟩
  have one : ∀ {k' : Nat} {x : D}, look [(k, D.v d')] k' = some x → k' = k ∧ x = .v d' := by
    intro k' x hx
    simp only [look_cons, look_nil] at hx
    split at hx
    · rename_i e
      exact ⟨e, by simpa using hx.symm⟩
    · cases hx
  refine h.appG [(k, .v d')] [] [] (fun k' hk => ?_) (fun _ _ _ _ => ⟨rfl, rfl⟩) (fun o x _ hm => by simp [mem_nil] at hm) (fun _ _ => ⟨rfl, rfl⟩) h.n h.tm (fun b hb => .inl hb) (fun b hb => hb.imp_right fun hs => .inl ⟨k, .v d', by simp [look_cons], hs.1⟩)
    (fun b hb => hb.elim (h.fz b) (fun hs => h.sz _ b hs.1)) (fun b hb _ => rfl) rfl rfl rfl (Nat.le_refl _) (fun k' x b hk hs => ?_) (fun k' x b hk hs => ?_) (fun k' x k2 x2 b hk hk2 hs hs2 => ?_) (fun k' x b hk hs hf => ?_) (fun k' x hk => ?_)
  · have hne : k' ≠ k := fun e => by simp [look_cons, e] at hk
    exact ⟨rfl, rfl, rfl, updF_ne _ _ hne⟩
  · obtain ⟨rfl, _⟩ := one hk
    rw [updF_same] at hs
    exact .inl ⟨k', .v d', by simp [look_cons], g1 b hs⟩
  · obtain ⟨rfl, _⟩ := one hk
    rw [updF_same] at hs
    exact h.sz _ _ (g1 b hs)
  · rw [(one hk).1, (one hk2).1]
  · obtain ⟨rfl, _⟩ := one hk
    rw [updF_same] at hs
    rcases hf with hf | hf
    · exact h.sF _ _ (g1 b hs) hf
    · exact hf.2 hs
  · obtain ⟨rfl, rfl⟩ := one hk
    refine ⟨cs, hz.fits hf, ?_⟩
    rw [updF_same]
    exact g2 (fun b hb => .inl hb) (fun b hb hn => .inr ⟨hb, hn⟩)
/-- .. what is in a box of one's own. -/
theorem RelX.frzB (h : RelX C Γ σ val loc S F tmps w) {k : Nat} {t : TypeId} {d d' : SD} (hΓ : Γ k = .box t d) (hz : Fz d d') : ∃ S' F', RelX C (ap Γ [(k, .box t d')] [] []) σ val loc S' F' tmps w := by
  have hok := h.ok k
  rw [hΓ] at hok
  obtain ⟨arr, T, a1, a2, a3, hR⟩ := hok
  obtain ⟨S1, g1, g2⟩ := hz.get hR
  refine ⟨updF S k (fun b => b = loc k ∨ S1 b), fun b => F b ∨ (T b ∧ ¬ S1 b), ?_⟩
  have one : ∀ {k' : Nat} {x : D}, look [(k, D.box t d')] k' = some x → k' = k ∧ x = .box t d' := by
    intro k' x hx
    simp only [look_cons, look_nil] at hx
    split at hx
    · rename_i e
      exact ⟨e, by simpa using hx.symm⟩
    · cases hx
  have hin : ∀ b, (b = loc k ∨ S1 b) → S k b := fun b hb => hb.elim (fun e => e ▸ a2) fun h => (a3 b (g1 b h)).1
  refine h.appG [(k, .box t d')] [] [] (fun k' hk => ?_) (fun _ _ _ _ => ⟨rfl, rfl⟩) (fun o x _ hm => by simp [mem_nil] at hm) (fun _ _ => ⟨rfl, rfl⟩) h.n h.tm (fun b hb => .inl hb) (fun b hb => hb.imp_right fun hs => .inl ⟨k, .box t d', by simp [look_cons], (a3 b hs.1).1⟩)
    (fun b hb => hb.elim (h.fz b) (fun hs => h.sz _ b (a3 b hs.1).1)) (fun b hb _ => rfl) rfl rfl rfl (Nat.le_refl _) (fun k' x b hk hs => ?_) (fun k' x b hk hs => ?_) (fun k' x k2 x2 b hk hk2 hs hs2 => ?_) (fun k' x b hk hs hf => ?_) (fun k' x hk => ?_)
  · have hne : k' ≠ k := fun e => by simp [look_cons, e] at hk
    exact ⟨rfl, rfl, rfl, updF_ne _ _ hne⟩
  · obtain ⟨rfl, _⟩ := one hk
    rw [updF_same] at hs
    exact .inl ⟨k', .box t d', by simp [look_cons], hin b hs⟩
  · obtain ⟨rfl, _⟩ := one hk
    rw [updF_same] at hs
    exact h.sz _ _ (hin b hs)
  · rw [(one hk).1, (one hk2).1]
  · obtain ⟨rfl, _⟩ := one hk
    rw [updF_same] at hs
    rcases hf with hf | hf
    · exact h.sF _ _ (hin b hs) hf
    · rcases hs with rfl | hs
      · exact (a3 _ hf.1).2 rfl
      · exact hf.2 hs
  · obtain ⟨rfl, rfl⟩ := one hk
    refine ⟨arr, S1, a1, by rw [updF_same]; exact .inl rfl, fun b hb => ⟨by rw [updF_same]; exact .inr hb, (a3 b (g1 b hb)).2⟩, ?_⟩
    exact g2 (fun b hb => .inl hb) (fun b hb hn => .inr ⟨hb, hn⟩)
/-- What a root may be frozen to. -/
def FzD (A B : D) : Prop := (∃ a d, A = .v a ∧ B = .v d ∧ Fz a d) ∨ ∃ t a d, A = .box t a ∧ B = .box t d ∧ Fz a d
theorem FzD.refl {A B : D} (h : FzD A B) : FzD B B := by
  rcases h with ⟨a, d, _, rfl, _⟩ | ⟨t, a, d, _, rfl, _⟩
  · exact .inl ⟨d, d, rfl, rfl, .inr (.inr rfl)⟩
  · exact .inr ⟨t, d, d, rfl, rfl, .inr (.inr rfl)⟩
theorem FzD.root {A B : D} (h : FzD A B) : A.isRoot = true := by
  rcases h with ⟨a, d, rfl, _, _⟩ | ⟨t, a, d, rfl, _, _⟩ <;> rfl
theorem frz1_ok {A B X : D} (h : frz1 A B = some X) : FzD A X := by
  unfold frz1 at h
  split at h
  · split at h
    · cases h
    · split at h
      · simp only [Option.some.injEq] at h; exact .inl ⟨_, _, rfl, h.symm, .inr (.inl rfl)⟩
      · split at h
        · simp only [Option.some.injEq] at h; exact .inl ⟨_, _, rfl, h.symm, .inl rfl⟩
        · cases h
  · split at h
    · cases h
    · split at h
      · simp only [Option.some.injEq] at h; exact .inr ⟨_, _, _, rfl, h.symm, .inr (.inl rfl)⟩
      · split at h
        · simp only [Option.some.injEq] at h; exact .inr ⟨_, _, _, rfl, h.symm, .inl rfl⟩
        · cases h
  · cases h
theorem RelX.frzD (h : RelX C Γ σ val loc S F tmps w) {k : Nat} {y : D} (hz : FzD (Γ k) y) : ∃ S' F', RelX C (ap Γ [(k, y)] [] []) σ val loc S' F' tmps w := by
  rcases hz with ⟨a, d, h1, rfl, h2⟩ | ⟨t, a, d, h1, rfl, h2⟩
  · exact h.frz h1 h2
  · exact h.frzB h1 h2
theorem loOne_ok (h : RelX C Γ σ val loc S F tmps w) {x : Operand} {l : List MS} (hc : loOne Γ x = some l) : ∃ S' F', RelX C (l.foldl apm Γ) (preRun l σ) val loc S' F' tmps w := by
  have nil : l = [] → ∃ S' F', RelX C (l.foldl apm Γ) (preRun l σ) val loc S' F' tmps w := fun e => by subst e; exact ⟨S, F, h⟩
  cases x with
  | tmp t =>
    cases hΓ : Γ (tk t)
    case none => simp [loOne, hΓ] at hc
    case v d =>
      simp only [loOne, hΓ] at hc
      split at hc
      · simp only [Option.some.injEq] at hc; exact nil hc.symm
      · simp only [Option.some.injEq] at hc
        subst hc
        exact h.frz hΓ (.inr (.inl rfl))
    case view =>
      rename_i o π
      simp only [loOne, hΓ] at hc
      split at hc
      · simp only [Option.some.injEq] at hc; exact nil hc.symm
      · rename_i hcond
        simp only [Bool.or_eq_true, not_or, Bool.not_eq_true, Option.isSome_eq_false_iff, Option.isNone_iff_eq_none] at hcond
        obtain ⟨hne, hpo⟩ := hcond
        have hne : o ≠ tk t := beq_false.1 hne
        cases hΓo : Γ o <;> simp only [hΓo, reduceCtorEq, Option.some.injEq] at hc <;> try exact nil hc.symm
        rename_i d
        split at hc
        · simp only [Option.some.injEq] at hc; exact nil hc.symm
        simp only [Option.some.injEq] at hc
        subst hc
        have hok := h.ok o
        rw [hΓo] at hok
        obtain ⟨cs, hf, hR⟩ := hok
        obtain ⟨S1, g1, g2⟩ := hR.toLo
        have hv := h.ok (tk t)
        rw [hΓ] at hv
        refine ⟨updF (updF S o S1) (tk t) Set.none, fun b => F b ∨ (S o b ∧ ¬ S1 b), ?_⟩
        show RelX C (ap Γ [(tk t, .view o π), (o, .v d.lo)] [] []) (setAll σ [] []) _ _ _ _ _ _
        have two : ∀ {k' : Nat} {x : D}, look [(tk t, D.view o π), (o, D.v d.lo)] k' = some x → (k' = tk t ∧ x = .view o π) ∨ (k' = o ∧ x = .v d.lo) := by
          intro k' x hx
          simp only [look_cons, look_nil] at hx
          split at hx
          · rename_i e; exact .inl ⟨e, by simpa using hx.symm⟩
          · split at hx
            · rename_i e; exact .inr ⟨e, by simpa using hx.symm⟩
            · cases hx
        have hlo : look [(tk t, D.view o π), (o, D.v d.lo)] o = some (.v d.lo) := by rw [look_cons, if_neg hne, look_cons, if_pos rfl]
        have hSt : ∀ b, ¬ updF (updF S o S1) (tk t) Set.none (tk t) b := fun b hb => by rw [updF_same] at hb; exact hb
        have hSo : updF (updF S o S1) (tk t) Set.none o = S1 := by rw [updF_ne _ _ hne, updF_same]
        refine h.appG _ [] [] (fun k hk => ?_) (fun k x hk hm => ⟨rfl, rfl⟩) (fun o x _ hm => by simp [mem_nil] at hm) (fun k hk => ⟨rfl, rfl⟩) h.n h.tm (fun b hb => .inl hb) (fun b hb => hb.imp_right fun hs => .inl ⟨o, .v d.lo, hlo, hs.1⟩)
          (fun b hb => hb.elim (h.fz b) (fun hs => h.sz _ b hs.1)) (fun b hb _ => rfl) rfl rfl rfl (Nat.le_refl _) (fun k x b hk hs => ?_) (fun k x b hk hs => ?_) (fun k x k' x' b hk hk' hs hs' => ?_) (fun k x b hk hs hf => ?_) (fun k x hk => ?_)
        · have hne1 : k ≠ tk t := fun e => by simp [look_cons, e] at hk
          have hne2 : k ≠ o := fun e => by rw [e, hlo] at hk; cases hk
          exact ⟨rfl, rfl, rfl, by rw [updF_ne _ _ hne1, updF_ne _ _ hne2]⟩
        · rcases two hk with ⟨rfl, _⟩ | ⟨rfl, _⟩
          · exact (hSt b hs).elim
          · rw [hSo] at hs; exact .inl ⟨k, _, hlo, g1 b hs⟩
        · rcases two hk with ⟨rfl, _⟩ | ⟨rfl, _⟩
          · exact (hSt b hs).elim
          · rw [hSo] at hs; exact h.sz _ _ (g1 b hs)
        · rcases two hk with ⟨rfl, _⟩ | ⟨rfl, _⟩
          · exact (hSt b hs).elim
          · rcases two hk' with ⟨rfl, _⟩ | ⟨rfl, _⟩
            · exact (hSt b hs').elim
            · rfl
        · rcases two hk with ⟨rfl, _⟩ | ⟨rfl, _⟩
          · exact (hSt b hs).elim
          · rw [hSo] at hs
            rcases hf with hf | hf
            · exact h.sF _ _ (g1 b hs) hf
            · exact hf.2 hs
        · rcases two hk with ⟨rfl, rfl⟩ | ⟨rfl, rfl⟩
          · obtain ⟨⟨d1, cs1, base, x1, c1, ad, r1, r2, r3⟩, r4⟩ := hv
            refine ⟨⟨d1.lo, cs1, base, x1.lo, c1, ad, ?_, ?_, r3.lo⟩, r4⟩
            · rcases r1 with ⟨a1, a2, a3⟩ | ⟨ty, arr, a1, _⟩
              · rw [hΓo] at a1
                simp only [D.v.injEq] at a1
                subst a1
                exact .inl ⟨by unfold ap; rw [hlo], a2.lo, a3⟩
              · rw [hΓo] at a1; cases a1
            · unfold Sub at r2 ⊢
              simp only [hpo] at r2 ⊢
              obtain ⟨b1, b2, b3⟩ := r2
              exact ⟨by rw [SD.lo_get, b1]; rfl, by rw [SD.lo_off, SD.lo_sz]; exact b2, by rw [SD.lo_off]; exact b3⟩
          · refine ⟨cs, hf.lo, ?_⟩
            rw [hSo]
            exact g2 (fun b hb => .inl hb) (fun b hb hn => .inr ⟨hb, hn⟩)
    all_goals
      simp only [loOne, hΓ, Option.some.injEq] at hc
      exact nil hc.symm
  | _ =>
    simp only [loOne, Option.some.injEq] at hc
    exact nil hc.symm

/-- What an operand hangs on moves to what is only read. -/
theorem fzOne_ok (h : RelX C Γ σ val loc S F tmps w) {x : Operand} {l : List MS} (hc : fzOne C.P Γ x = some l) : ∃ S' F', RelX C (l.foldl apm Γ) (preRun l σ) val loc S' F' tmps w := by
  have nil : l = [] → ∃ S' F', RelX C (l.foldl apm Γ) (preRun l σ) val loc S' F' tmps w := fun e => by subst e; exact ⟨S, F, h⟩
  cases x with
  | tmp t =>
    cases hΓ : Γ (tk t)
    case none => simp [fzOne, hΓ] at hc
    case v d =>
      simp only [fzOne, hΓ] at hc
      split at hc
      · simp only [Option.some.injEq] at hc; exact nil hc.symm
      · simp only [Option.some.injEq] at hc
        subst hc
        exact h.frz hΓ (.inl rfl)
    case view | tr | sl =>
      rename_i o π
      simp only [fzOne, hΓ] at hc
      split at hc
      · simp only [Option.some.injEq] at hc; exact nil hc.symm
      · rename_i hne
        have hne : o ≠ tk t := fun e => hne (beq_iff.2 e)
        cases hΓo : Γ o <;> simp only [hΓo, reduceCtorEq, Option.some.injEq] at hc <;> try exact nil hc.symm
        rename_i d
        obtain ⟨⟨d', px⟩, hl, hm⟩ := Option.map_eq_some_iff.1 hc
        simp only at hm
        subst hm
        obtain ⟨cs1, hf1, hR1⟩ := lend_ok h hl []
        have hlk : lendKeys Γ (.tmp t) = [o] := by simp [lendKeys, hΓ]
        rw [hlk] at hR1
        have hok := h.ok o
        rw [hΓo] at hok
        obtain ⟨cs, hf, hR⟩ := hok
        refine ⟨updF (updF S o Set.none) (tk t) Set.none, fun b => F b ∨ S o b, ?_⟩
        show RelX C (ap Γ [(tk t, .v d'), (o, .v d.ro)] [] []) (setAll σ [] [(tk t, px)]) _ _ _ _ _ _
        rw [setAll_one]
        refine h.appG [(tk t, .v d'), (o, .v d.ro)] [] [] (fun k hk => ?_) (fun k x hk hm => ⟨rfl, rfl⟩) (fun o x _ hm => by simp [mem_nil] at hm) (fun k hk => ⟨rfl, rfl⟩) h.n h.tm (fun b hb => .inl hb) (fun b hb => hb.imp_right fun hs => .inl ⟨o, .v d.ro, by rw [look_cons, if_neg hne, look_cons, if_pos rfl], hs⟩)
          (fun b hb => hb.elim (h.fz b) (h.sz _ b)) (fun b hb _ => rfl) rfl rfl rfl (Nat.le_refl _) (fun k x b hk hs => ?_) (fun k x b hk hs => ?_) (fun k x k' x' b hk hk' hs hs' => ?_) (fun k x b hk hs hf => ?_) (fun k x hk => ?_)
        · have hne1 : k ≠ tk t := fun e => by simp [look_cons, e] at hk
          have hne2 : k ≠ o := fun e => by
            subst e
            rw [look_cons, if_neg hne, look_cons, if_pos rfl] at hk
            cases hk
          exact ⟨updF_ne _ _ hne1, rfl, rfl, by rw [updF_ne _ _ hne1, updF_ne _ _ hne2]⟩
        all_goals
          have e : k = tk t ∨ k = o := by
            simp only [look_cons, look_nil] at hk
            split at hk
            · exact .inl (by assumption)
            · split at hk
              · exact .inr (by assumption)
              · cases hk
          have hem : ∀ b, ¬ updF (updF S o Set.none) (tk t) Set.none k b := fun b hb => by
            rcases e with e | e
            · rw [e, updF_same] at hb; exact hb
            · rw [e, updF_ne _ _ hne, updF_same] at hb; exact hb
        · exact (hem b hs).elim
        · exact (hem b hs).elim
        · exact (hem b hs).elim
        · exact (hem b hs).elim
        · rcases e with e | e
          · subst e
            rw [look_cons, if_pos rfl] at hk
            simp only [Option.some.injEq] at hk
            subst hk
            refine ⟨cs1, by rw [show val (tk t) = evalOp tmps (.tmp t) from h.tm t]; exact hf1, ?_⟩
            rw [updF_same, updF_same]
            refine hR1.more fun b hb => hb.imp_right fun ⟨o', ho, hs⟩ => ?_
            simp only [List.mem_singleton] at ho
            subst ho
            exact hs
          · subst e
            rw [look_cons, if_neg hne, look_cons, if_pos rfl] at hk
            simp only [Option.some.injEq] at hk
            subst hk
            refine ⟨cs, hf.ro, ?_⟩
            rw [updF_ne _ _ hne, updF_ne _ _ hne, updF_same]
            exact hR.toRo (fun b hb => .inl hb) (fun b hb => .inr hb)
    case bp =>
      rename_i o
      simp only [fzOne, hΓ] at hc
      cases hΓo : Γ o <;> simp only [hΓo, reduceCtorEq, Option.some.injEq] at hc <;> try exact nil hc.symm
      rename_i ty d
      split at hc
      · rename_i hcond
        simp only [Bool.and_eq_true, Bool.not_eq_true', beq_false] at hcond
        obtain ⟨⟨_, hcoe⟩, hne⟩ := hcond
        have hne : o ≠ tk t := hne
        simp only [Option.some.injEq] at hc
        subst hc
        have hp := h.ok (tk t)
        rw [hΓ] at hp
        have hok := h.ok o
        rw [hΓo] at hok
        obtain ⟨arr, T, a1, a2, a3, hR⟩ := hok
        refine ⟨updF (updF S o Set.none) (tk t) Set.none, fun b => F b ∨ S o b, ?_⟩
        show RelX C (ap Γ [(tk t, .v (.fp ty)), (o, .none)] [] []) (setAll σ [] [(tk t, .lcons (.k o) .lnil)]) _ _ _ _ _ _
        rw [setAll_one]
        have lo : look [(tk t, D.v (.fp ty)), (o, D.none)] o = some .none := by rw [look_cons, if_neg hne, look_cons, if_pos rfl]
        have two : ∀ {k : Nat} {x : D}, look [(tk t, D.v (.fp ty)), (o, D.none)] k = some x → (k = tk t ∧ x = .v (.fp ty)) ∨ (k = o ∧ x = .none) := by
          intro k x hx
          simp only [look_cons, look_nil] at hx
          split at hx
          · rename_i e; exact .inl ⟨e, by simpa using hx.symm⟩
          · split at hx
            · rename_i e; exact .inr ⟨e, by simpa using hx.symm⟩
            · cases hx
        have hem : ∀ {k : Nat} {x : D} {b : Nat}, look [(tk t, D.v (.fp ty)), (o, D.none)] k = some x → updF (updF S o Set.none) (tk t) Set.none k b → False := by
          intro k x b hk hb
          rcases two hk with ⟨rfl, _⟩ | ⟨rfl, _⟩
          · rw [updF_same] at hb; exact hb
          · rw [updF_ne _ _ hne, updF_same] at hb; exact hb
        refine h.appG _ [] [] (fun k hk => ?_) (fun k x hk hm => ⟨rfl, rfl⟩) (fun o x _ hm => by simp [mem_nil] at hm) (fun k hk => ⟨rfl, rfl⟩) h.n h.tm (fun b hb => .inl hb) (fun b hb => hb.imp_right fun hs => .inl ⟨o, .none, lo, hs⟩)
          (fun b hb => hb.elim (h.fz b) (h.sz _ b)) (fun b hb _ => rfl) rfl rfl rfl (Nat.le_refl _) (fun k x b hk hs => (hem hk hs).elim) (fun k x b hk hs => (hem hk hs).elim) (fun k x k' x' b hk hk' hs hs' => (hem hk hs).elim) (fun k x b hk hs hf => hem hk hs) (fun k x hk => ?_)
        · have hne1 : k ≠ tk t := fun e => by simp [look_cons, e] at hk
          have hne2 : k ≠ o := fun e => by rw [e, lo] at hk; cases hk
          exact ⟨updF_ne _ _ hne1, rfl, rfl, by rw [updF_ne _ _ hne1, updF_ne _ _ hne2]⟩
        · rcases two hk with ⟨rfl, rfl⟩ | ⟨rfl, rfl⟩
          · refine ⟨[val (tk t)], .inr ⟨rfl, rfl⟩, ?_⟩
            rw [updF_same, hp.1]
            exact .fp ty (loc o) arr (σ o) _ a1 (.inr a2) ((hR.toRo (fun b hb => .inl hb) (fun b hb => .inr (a3 b hb).1)).coe hcoe)
          · trivial
      · simp only [Option.some.injEq] at hc
        exact nil hc.symm
    all_goals
      simp only [fzOne, hΓ, Option.some.injEq] at hc
      exact nil hc.symm
  | _ =>
    simp only [fzOne, Option.some.injEq] at hc
    exact nil hc.symm
theorem fzMS_ok {lo : Bool} : ∀ {xs : List Operand} {Γ : Nat → D} {σ : Nat → PV} {S : Nat → Set} {F : Set} {l : List MS}, RelX C Γ σ val loc S F tmps w → fzMS lo C.P Γ xs = some l → ∃ S' F', RelX C (l.foldl apm Γ) (preRun l σ) val loc S' F' tmps w
  | [], Γ, σ, S, F, l, h, hc => by
    simp only [fzMS, Option.some.injEq] at hc
    subst hc
    exact ⟨S, F, h⟩
  | x :: xs, Γ, σ, S, F, l, h, hc => by
    simp only [fzMS] at hc
    cases h1 : (if lo = true then loOne Γ x else fzOne C.P Γ x) with
    | none => simp [h1] at hc
    | some m =>
      rw [h1] at hc
      simp only at hc
      obtain ⟨q, h2, rfl⟩ := Option.map_eq_some_iff.1 hc
      obtain ⟨S1, F1, g1⟩ : ∃ S' F', RelX C (m.foldl apm Γ) (preRun m σ) val loc S' F' tmps w := by
        split at h1
        · exact loOne_ok h h1
        · exact fzOne_ok h h1
      obtain ⟨S2, F2, g2⟩ := fzMS_ok g1 h2
      refine ⟨S2, F2, ?_⟩
      unfold preRun at g2 ⊢
      rw [List.foldl_append, List.foldl_append]
      exact g2
theorem copZ_ok {lo : Bool} {j b : Nat} (h : RelX C Γ σ val loc S F a.tmps w) (hdt : ∀ d, o.dst = some d → d < C.nt) (hc : copZ lo j b C.P sg Γ o = some r) (hI : Good C.P sg I) (hrun : r.run I σ = some σ') (hK : Cont C (apS Γ r) σ' a K) : o.wp C.P a w K Q := by
  unfold copZ at hc
  cases h1 : fzMS lo C.P Γ o.op.operands.toList with
  | none => simp [h1] at hc
  | some l =>
    rw [h1] at hc
    cases l with
    | nil => cases hc
    | cons m ms =>
      simp only at hc
      obtain ⟨r0, h2, rfl⟩ := Option.map_eq_some_iff.1 hc
      obtain ⟨S', F', h'⟩ := fzMS_ok h h1
      have e1 : apS Γ { r0 with pre := (m :: ms) ++ r0.pre } = apS ((m :: ms).foldl apm Γ) r0 := by
        unfold apS
        rw [List.foldl_append]
      have e2 : SR.run I { r0 with pre := (m :: ms) ++ r0.pre } σ = SR.run I r0 (preRun (m :: ms) σ) := by
        unfold SR.run preRun
        simp only [List.foldl_append]
      rw [e2] at hrun
      rw [e1] at hK
      exact cop_ok h' hdt h2 hI hrun hK
theorem copF_ok {j b : Nat} (h : RelX C Γ σ val loc S F a.tmps w) (hdt : ∀ d, o.dst = some d → d < C.nt) (hc : copF j b C.P sg Γ o = some r) (hI : Good C.P sg I) (hrun : r.run I σ = some σ') (hK : Cont C (apS Γ r) σ' a K) : o.wp C.P a w K Q := by
  unfold copF at hc
  split at hc
  · exact cop_ok h hdt hc hI hrun hK
  · split at hc
    · exact copZ_ok h hdt hc hI hrun hK
    · exact copZ_ok h hdt hc hI hrun hK
end
end Go.Rsc
