/- One operation. No conditions. -/
import Derived.Test.YthmhgnnaihkjaaaRscZc
namespace Go.Rsc
open Go.RowKit
set_option linter.unusedVariables false
set_option linter.unusedSimpArgs false

/-- All functions of a table are held to their contracts. -/
def Good (P : Program) (sg : FuncId → Option Sig) (I : Interp) : Prop := ∀ f s as os, sg f = some s → I f as = some os → Ctr P s (f % 4096) as os

section
variable {w w' : World} {F : Set} {Γ : Nat → D} {σ σ' : Nat → PV} {val : Nat → Value} {loc : Nat → Nat} {S : Nat → Set} {C : Cx} {tmps tmps' : Array Value}
variable {a : Act} {o : Oper} {K : Act → World → Prop} {Q : Exit → Act → World → Prop} {dst : Option Nat} {I : Interp} {r : SR} {sg : FuncId → Option Sig}

theorem kind_mod {f : FuncId} (j : Nat) (hf : f < 4096) : (f + 4096 * j) % 4096 = f := by
  rw [Nat.add_mul_mod_self_left]
  exact Nat.mod_eq_of_lt hf
theorem run_enter {P : Program} {f : FuncId} {args : Array Value} (h : bodyOk P f = true) (hf : f % 4096 = f) : (callFunc f args).run P w = .ok (.enter f args) w := by
  unfold bodyOk at h
  rw [hf] at h
  unfold callFunc
  cases hfn : P.funcs[f]? with
  | none => rw [hfn] at h; cases h
  | some fn =>
    rw [hfn] at h
    simp only [Bool.and_eq_true, bne_iff_ne, ne_eq] at h
    obtain ⟨b, hb⟩ := Option.isSome_iff_exists.1 h.1
    simp [hfn, h.2, hb]

theorem cCall_ok {j b : Nat} {cl : Call} {f : FuncId} {args : List Src} (h : RelX C Γ σ val loc S F a.tmps w) (hdst : o.dst = dst) (hdt : ∀ d, dst = some d → d < C.nt) (hop : o.op = .call cl) (hf : f < 4096)
    (hr : bodyOk C.P f = true → (execOp a.eval o).run C.P w = .ok (.enter f (args.map (srcV a.tmps val)).toArray) w)
    (hc : cCall j b C.P sg Γ dst f args = some r) (hI : Good C.P sg I) (hrun : r.run I σ = some σ') (hK : Cont C (apS Γ r) σ' a K) : o.wp C.P a w K Q := by
  unfold cCall at hc
  have hm := kind_mod j hf
  split at hc
  · rename_i s hs
    refine cCall1_ok h hdst hdt (fun hb => ?_) hc (fun as os => hI _ s as os hs) hrun hK
    rw [hm]
    refine hr ?_
    unfold bodyOk at hb ⊢
    rw [Nat.mod_eq_of_lt hf]
    rwa [hm] at hb
  · cases hc

theorem cop_ok {j b : Nat} (h : RelX C Γ σ val loc S F a.tmps w) (hdt : ∀ d, o.dst = some d → d < C.nt) (hc : cop j b C.P sg Γ o = some r) (hI : Good C.P sg I) (hrun : r.run I σ = some σ') (hK : Cont C (apS Γ r) σ' a K) : o.wp C.P a w K Q := by
  unfold cop at hc
  split at hc
  · rename_i e1 e2; exact cMove_ok h (hdt _ e2) e2 (.inl e1) hc hrun hK
  · rename_i e1 e2; exact cAssign_ok h (hdt _ e2) e2 e1 hc hrun hK
  · rename_i e1 e2; exact cPick_ok h (hdt _ e2) e2 e1 hc hrun hK
  · rename_i e1 e2; exact cAlloc_ok h (hdt _ e2) e2 e1 hc hrun hK
  · rename_i e1 e2; exact cBox_ok h (hdt _ e2) e2 e1 hc hrun hK
  · rename_i e1 e2; exact cBuild_ok h (hdt _ e2) e2 e1 hc hrun hK
  · rename_i e1 e2; exact cBuildSlice_ok h (hdt _ e2) e2 e1 hc hrun hK
  · rename_i e1 e2; exact cLoad_ok h (hdt _ e2) e2 e1 hc hrun hK
  · rename_i e1 e2
    split at hc
    · rename_i r0 hr0
      simp only [Option.some.injEq] at hc
      subst hc
      exact cStoreE_ok h e2 e1 hr0 hrun hK
    · exact cStore_ok h e2 e1 hc hrun hK
  · rename_i e1 e2; exact cNil_ok h (hdt _ e2) e2 e1 hc hrun hK
  · rename_i e1 e2
    split at hc
    · rename_i hn; exact cIsNil_ok h (hdt _ e2) e2 e1 hn hc hrun hK
    · exact cBin_ok h (hdt _ e2) e2 e1 hc hrun hK
  · rename_i e1 e2; exact cUn_ok h (hdt _ e2) e2 e1 hc hrun hK
  · rename_i e1 e2
    split at hc
    · exact cS2B_ok h (hdt _ e2) e2 e1 hc hrun hK
    · exact cConvert_ok h (hdt _ e2) e2 e1 hc hrun hK
  · rename_i e1 e2; exact cMakeFunc_ok h (hdt _ e2) e2 e1 hc hrun hK
  · rename_i e1 e2; exact cMakeSlice_ok h (hdt _ e2) e2 e1 hc hrun hK
  · rename_i e1 e2; exact cMakeMap_ok h (hdt _ e2) e2 e1 hc hrun hK
  · rename_i e1 e2; exact cLookup_ok h (hdt _ e2) e2 e1 hc hrun hK
  · rename_i e1 e2; exact cMapUpd_ok h e2 e1 hc hrun hK
  · rename_i e1 e2; exact cSlice_ok h (hdt _ e2) e2 e1 hc hrun hK
  · rename_i e1 e2; exact cFieldAddr_ok h (hdt _ e2) e2 e1 hc hrun hK
  · rename_i e1 e2; exact cField_ok h (hdt _ e2) e2 e1 hc hrun hK
  · rename_i e1 e2; exact cIndexAddr_ok h (hdt _ e2) e2 e1 hc hrun hK
  · rename_i e1 e2; exact cIndex_ok h (hdt _ e2) e2 e1 hc hrun hK
  · rename_i e1 e2; exact cExtract_ok h (hdt _ e2) e2 e1 hc hrun hK
  · rename_i cl e1
    split at hc
    · rename_i ax ec ea
      cases hd : o.dst with
      | none => rw [hd] at hc; cases hc
      | some d =>
        rw [hd] at hc
        obtain ⟨px, hpx, rfl⟩ := Option.map_eq_some_iff.1 hc
        obtain ⟨bb, h1, h2⟩ := Option.bind_eq_some_iff.1 hpx
        exact cLen_ok h (hdt _ hd) hd e1 ec ea h1 h2 hrun hK
    · rename_i as ax ec ea
      cases hd : o.dst with
      | none => rw [hd] at hc; cases hc
      | some d =>
        rw [hd] at hc
        simp only at hc
        split at hc
        · rename_i r0 hr0
          simp only [Option.some.injEq] at hc
          subst hc
          exact cAppE_ok h (hdt _ hd) hd e1 ec ea hr0 hrun hK
        · split at hc
          · exact cAppend_ok h (hdt _ hd) hd e1 ec ea hc hrun hK
          · exact cAppendS_ok h (hdt _ hd) hd e1 ec ea hc hrun hK
    · rename_i ad ax ec ea
      cases hd : o.dst with
      | none => rw [hd] at hc; cases hc
      | some d =>
        rw [hd] at hc
        exact cCopy_ok h (hdt _ hd) hd e1 ec ea hc hrun hK
    · rename_i ax ay ec ea
      cases hd : o.dst with
      | none => rw [hd] at hc; cases hc
      | some d =>
        rw [hd] at hc
        exact cMin_ok h (hdt _ hd) hd e1 ec ea hc hrun hK
    · rename_i f ec
      split at hc
      · rename_i hlt
        have hf : f < 4096 := Nat.le_of_ble_eq_true hlt
        refine cCall_ok h rfl hdt e1 hf (fun hb => ?_) hc hI hrun hK
        have hargs : (cl.args.map a.eval) = ((cl.args.toList.map Src.op).map (srcV a.tmps val)).toArray := by
          apply Array.ext'
          simp [srcV, evalOp_eq, Function.comp_def]
        have hres : (resolve a.eval cl o.type).run C.P w = .ok { target := .fn (.func f) #[], args := cl.args.map a.eval } w := by
          unfold resolve
          rw [ec]
          show (Deferred.ofValue (.func (.func f) #[] #[]) (cl.args.map a.eval)).run C.P w = _
          simp [Deferred.ofValue]
        have := run_enter (w := w) (args := cl.args.map a.eval) hb (Nat.mod_eq_of_lt hf)
        rw [← hargs]
        simp only [execOp, e1, Sem.run_bind, hres, Result.andThen_ok, invoke, Array.append_empty, this]
      · cases hc
    · rename_i t ec
      split at hc
      · rename_i f ks hΓ
        split at hc
        · rename_i hlt
          have hf : f < 4096 := Nat.le_of_ble_eq_true hlt
          refine cCall_ok h rfl hdt e1 hf (fun hb => ?_) hc hI hrun hK
          have hok := h.ok (tk t)
          rw [hΓ] at hok
          have hev : a.eval (.tmp t) = .func (.func f) #[] (ks.map val).toArray := by rw [evalOp_eq, ← hok.1]; exact (h.tm t).symm
          have hargs : (cl.args.map a.eval) ++ (ks.map val).toArray = (((cl.args.toList.map Src.op) ++ ks.map Src.key).map (srcV a.tmps val)).toArray := by
            apply Array.ext'
            simp [srcV, evalOp_eq, Function.comp_def]
          have hres : (resolve a.eval cl o.type).run C.P w = .ok { target := .fn (.func f) (ks.map val).toArray, args := cl.args.map a.eval } w := by
            unfold resolve
            rw [ec]
            simp only
            rw [hev]
            simp [Deferred.ofValue]
          have := run_enter (w := w) (args := cl.args.map a.eval ++ (ks.map val).toArray) hb (Nat.mod_eq_of_lt hf)
          rw [← hargs]
          simp only [execOp, e1, Sem.run_bind, hres, Result.andThen_ok, invoke, this]
        · cases hc
      · cases hc
    · cases hc
  · cases hc
end
end Go.Rsc
