/- The call of a function. No conditions. -/
import Derived.Test.YtdkfgnnebaahaaaRscZb
namespace Go.Rsc
open Go.RowKit
set_option linter.unusedVariables false
set_option linter.unusedSimpArgs false

section
variable {w w' : World} {F : Set} {Γ : Nat → D} {σ σ' : Nat → PV} {val : Nat → Value} {loc : Nat → Nat} {S : Nat → Set} {C : Cx} {tmps tmps' : Array Value}
variable {a : Act} {o : Oper} {K : Act → World → Prop} {Q : Exit → Act → World → Prop} {dst : Option Nat} {I : Interp} {r : SR}

theorem retV_eq (rvs : List Value) : retV rvs = match rvs with
  | [v] => v
  | _ => .tuple rvs.toArray := rfl

/-- The path's number is the same, whatever came of the call. -/
theorem dyn_ok {P : Program} {b m : Nat} {pm : PM} {s : Src} {ar : AR} (h : cArg P Γ b m pm s = some ar) : ∀ k D π dyn, ar.root = some (k, D, some (π, dyn)) → ∀ rs, dyn.eval σ rs = dyn.eval σ [] := by
  intro k D π dyn hr rs
  unfold cArg at h
  split at h
  · split at h
    · split at h
      · simp only [Option.some.injEq] at h; subst h; cases hr
      · cases h
    · cases h
  · unfold cRp at h
    split at h
    · split at h
      · simp only [Option.some.injEq] at h; subst h; cases hr
      · cases h
    · split at h
      · split at h
        · simp only [Option.some.injEq] at h; subst h; cases hr
        · cases h
      · cases h
    · split at h
      · split at h
        · simp only [Option.some.injEq] at h; subst h; cases hr
        · cases h
      · cases h
    · cases h
  · split at h
    · split at h
      · split at h
        · simp only [Option.some.injEq] at h; subst h; simp at hr
        · cases h
      · cases h
    · cases h
  · split at h
    · split at h
      · simp only [Option.some.injEq] at h; subst h; cases hr
      · cases h
    · cases h
  · split at h
    · split at h
      · simp only [Option.some.injEq] at h; subst h; simp at hr
      · cases h
    · split at h
      · simp only [Option.some.injEq] at h; subst h
        simp only [Option.some.injEq, Prod.mk.injEq] at hr
        obtain ⟨_, _, _, rfl⟩ := hr
        rfl
      · cases h
    · cases h
  · cases h

theorem own_ok {P : Program} {b m : Nat} {pm : PM} {s : Src} {ar : AR} (h : cArg P Γ b m pm s = some ar) : ∀ k ∈ ar.own, k % 64 = 63 := by
  intro k hk
  unfold cArg at h
  split at h
  · split at h
    · split at h
      · simp only [Option.some.injEq] at h; subst h; simp at hk
      · cases h
    · cases h
  · unfold cRp at h
    split at h
    · split at h
      · simp only [Option.some.injEq] at h; subst h; simp at hk
      · cases h
    · split at h
      · split at h
        · simp only [Option.some.injEq] at h; subst h; simp at hk
        · cases h
      · cases h
    · split at h
      · split at h
        · simp only [Option.some.injEq] at h; subst h; simp at hk
        · cases h
      · cases h
    · cases h
  · split at h
    · split at h
      · split at h
        · simp only [Option.some.injEq] at h; subst h; simp at hk
        · cases h
      · cases h
    · cases h
  · split at h
    · split at h
      · simp only [Option.some.injEq] at h; subst h
        simp only [List.mem_singleton] at hk
        subst hk; exact vk_mod _
      · cases h
    · cases h
  · split at h
    · split at h
      · simp only [Option.some.injEq] at h; subst h; simp at hk
      · cases h
    · split at h
      · simp only [Option.some.injEq] at h; subst h; simp at hk
      · cases h
    · cases h
  · cases h
theorem outs_keys : ∀ (as : List AR) (n : Nat), (outs as n).map (·.1) = (rootUpd as).map (·.1)
  | [], n => rfl
  | a :: as, n => by
    cases hr : a.root with
    | none => simp only [outs, rootUpd, hr, outs_keys as]
    | some t =>
      obtain ⟨o, d, r⟩ := t
      cases r with
      | none => simp only [outs, rootUpd, hr, List.map_cons, outs_keys as]
      | some q => obtain ⟨π, dyn⟩ := q; simp only [outs, rootUpd, hr, List.map_cons, outs_keys as]

theorem cCall1_ok {b : Nat} {s : Sig} {f : FuncId} {args : List Src} (h : RelX C Γ σ val loc S F a.tmps w) (hdst : o.dst = dst) (hdt : ∀ d, dst = some d → d < C.nt)
    (hr : bodyOk C.P f = true → (execOp a.eval o).run C.P w = .ok (.enter (f % 4096) (args.map (srcV a.tmps val)).toArray) w)
    (hc : cCall1 b C.P s Γ dst f args = some r) (hI : ∀ as os, I f as = some os → Ctr C.P s (f % 4096) as os) (hrun : r.run I σ = some σ') (hK : Cont C (apS Γ r) σ' a K) : o.wp C.P a w K Q := by
  unfold cCall1 at hc
  split at hc
  · cases hc
  · rename_i ss hss
    simp only at hc
    split at hc
    · cases hc
    · rename_i pre htk
      split at hc
      · cases hc
      · rename_i as has
        split at hc
        · rename_i hcond
          simp only [Bool.and_eq_true] at hcond
          obtain ⟨⟨⟨⟨⟨⟨⟨⟨⟨⟨hkd, hok⟩, hlk⟩, hrk⟩, hnb⟩, hbody⟩, h63⟩, hssl⟩, h48⟩, hnum⟩, hcaps⟩ := hcond
          simp only [Option.some.injEq] at hc
          have h63 : s.ps.length < 63 := Nat.le_of_ble_eq_true h63
          have h48 : s.rs.length < 48 := Nat.le_of_ble_eq_true h48
          have hlk' : ∀ k ∈ as.flatMap (·.lent), k ∉ as.flatMap AR.keys := fun k hk hm => by
            have := List.all_eq_true.1 hlk k hk
            rw [mem_iff.2 hm] at this
            cases this
          obtain ⟨val1, S1, V, X, T, h1, hval, cin, hX, hV, hal, hE, hTs⟩ := cIn_ok h hss htk has hnum hkd hlk' hok h63
          have hent : ∀ (k : Nat) (q : Nat × PM) (ar : AR), (flatP s.ps 0)[k]? = some q → as[k]? = some ar → ∃ sr, cArg C.P (pre.foldl apm Γ) b q.1 q.2 sr = some ar := by
            intro k q ar e1 e2
            have hlt : k < ss.length := by rw [beq_iff.1 hssl]; exact (List.getElem?_eq_some_iff.1 e1).1
            obtain ⟨ar', e3, e4⟩ := (cArgs_get _ has).2 k q.1 q.2 ss[k] (List.getElem?_zip_eq_some.2 ⟨e1, List.getElem?_eq_getElem hlt⟩)
            rw [e2] at e3
            simp only [Option.some.injEq] at e3
            subst e3
            exact ⟨_, e4⟩
          subst hc
          obtain ⟨os, hos, hσ'⟩ : ∃ os, I f ((as.map (·.arg)).map fun x => x.eval (preRun pre σ) []) = some os ∧ setAll (preRun pre σ) os ((cResults dst s.rs).map (fun x => (x.1, x.2.2)) ++ outs as s.rs.length) = σ' := by
            unfold SR.run at hrun
            simp only [List.all_nil, if_true] at hrun
            exact Option.map_eq_some_iff.1 hrun
          subst hσ'
          have hctr := hI _ _ hos w _ V X T cin (by rw [hX, List.map_map]; rfl)
          unfold Oper.wp
          rw [hr hbody, Oper.upon_enter, ← hV]
          refine hctr.mono fun e w'' ⟨F1, X', T', rvs, rps, U, he, hgr, hco, hout⟩ => ?_
          subst he
          subst hout
          -- what was lent is back
          have co : ∃ F2, Grow w w'' F F2 T T' U ∧ COut C.P w w'' F2 s.ps s.rs V T X' T' rvs rps U := by
            simp only [Bool.or_eq_true] at hnb
            rcases hnb with hnb | hnb
            · have : as.flatMap (·.lent) = [] := List.isEmpty_iff.1 hnb
              rw [this] at hgr
              have e : (fun b => F b ∨ lentOf S1 [] b) = F := by
                funext b
                simp [lentOf]
              rw [e] at hgr
              exact ⟨F1, hgr, hco⟩
            · exact ⟨F, Grow.same hco (fun m b hT hf => cin.sF m b hT (.inl hf)) h1.fz, hco.lessF hnb F⟩
          obtain ⟨F2, gr, co⟩ := co
          obtain ⟨valR, locR, SR', pvR, r1, r2, r3, r4, r5, r6, r7⟩ := results_ok (P := C.P) (w' := w'') (F := F2) (C := C) hdt h48 co.lv co.lp co.res co.dU (preRun pre σ) ((outNs s.ps).map X')
          have hres1 : ((cResults dst s.rs).map fun x => (x.1, x.2.1)).map (·.1) = (cResults dst s.rs).map (·.1) := by rw [List.map_map]; rfl
          have hres2 : ((cResults dst s.rs).map fun x => (x.1, x.2.2)).map (·.1) = (cResults dst s.rs).map (·.1) := by rw [List.map_map]; rfl
          have hkn := distinct_iff _ hkd
          have hrk' : ∀ k ∈ (cResults dst s.rs).map (·.1), k ∉ as.flatMap AR.keys := by
            intro k hk hm
            obtain ⟨ar, har, hka⟩ := List.mem_flatMap.1 hm
            unfold AR.keys at hka
            rcases List.mem_append.1 hka with hka | hka
            · cases hr' : ar.root with
              | none => rw [hr'] at hka; cases hka
              | some t =>
                obtain ⟨o', D0, r'⟩ := t
                rw [hr'] at hka
                simp only [List.mem_singleton] at hka
                subst hka
                have := List.all_eq_true.1 hrk k (List.mem_map.2 ⟨(k, D0), rootUpd_mem.2 ⟨ar, har, r', hr'⟩, rfl⟩)
                rw [mem_iff.2 hk] at this
                simp at this
            · obtain ⟨i', hi'⟩ := List.getElem?_of_mem har
              have hlt : i' < (flatP s.ps 0).length := by rw [← hal]; exact (List.getElem?_eq_some_iff.1 hi').1
              obtain ⟨sr, hsr⟩ := hent i' _ ar (List.getElem?_eq_getElem hlt) hi'
              have h3 := own_ok hsr k hka
              have h4 := r1 k hk
              omega
          refine hK _ _ ?_ (by cases dst <;> (rw [hdst]; rfl))
          have hlook : ∀ (i m : Nat) (pm : PM) (ar : AR) (k : Nat) (D : D) (r : Option (Pth × PX)), (flatP s.ps 0)[i]? = some (m, pm) → as[i]? = some ar → ar.root = some (k, D, r) → ∃ px, lookS (outs as s.rs.length) k = some px ∧ px.eval (preRun pre σ) (rps ++ (outNs s.ps).map X') = newTree (preRun pre σ) k r (X' m) := by
            intro i m pm ar k D r e1 e2 e3
            exact outs_look (flatP s.ps 0) as s.rs.length _ hal.symm (fun k q ar' q1 q2 => (hE k q.1 q.2 ar' q1 q2).bk) (fun ar' har k D π dyn hr' rs => by
              obtain ⟨i', hi'⟩ := List.getElem?_of_mem har
              have hlt : i' < (flatP s.ps 0).length := by rw [← hal]; exact (List.getElem?_eq_some_iff.1 hi').1
              obtain ⟨sr, hsr⟩ := hent i' _ ar' (List.getElem?_eq_getElem hlt) hi'
              exact dyn_ok hsr k D π dyn hr' rs) hkn (fun i' hi' => by
                rw [List.getD_eq_getElem?_getD, List.getD_eq_getElem?_getD, List.getElem?_append_right (by rw [co.lp]; omega), co.lp, Nat.add_sub_cancel_left]
                rfl) i (m, pm) ar k D r e1 e2 e3
          show Rel C (ap (pre.foldl apm Γ) ((cResults dst s.rs).map (fun x => (x.1, x.2.1)) ++ (rootUpd as ++ (as.flatMap (·.own)).map fun k => (k, D.none))) ((cResults dst s.rs).map (·.1)) (softs as)) _ _ _
          rw [← hres1]
          refine ⟨_, _, _, _, callBack (res := (cResults dst s.rs).map fun x : Nat × D × PX => (x.1, x.2.1)) (valR := valR) (locR := locR) (SR := SR') (pvR := pvR) h1 hE hTs hal hkn (distinct_iff _ hnum) co gr ?_ ?_ ?_ ?_ ?_ ?_ ?_ ?_ ?_ ?_⟩
          · rw [hres1]; exact hrk'
          · rw [hres1]; exact fun k hk => by have := r1 k hk; omega
          · cases dst with
            | none => rw [hdst]; exact h1.n
            | some d => rw [hdst]; simpa [Act.put] using h1.n
          · intro i
            rw [hres1]
            unfold afterR
            by_cases hm : tk i ∈ (cResults dst s.rs).map (·.1)
            · have hd := r3 i hm
              rw [if_pos hm, (r2 i hd).2, hdst, hd]
              show _ = (a.tmps.setIfInBounds i (retV rvs)).getD i undef
              rw [put_getD _ (by rw [h1.n]; exact hdt i hd)]
              simp
            · rw [if_neg hm]
              cases hq : dst with
              | none => rw [hdst, hq]; exact h1.tm i
              | some d =>
                rw [hdst, hq]
                show _ = (a.tmps.setIfInBounds d (retV rvs)).getD i undef
                rw [put_getD _ (by rw [h1.n]; exact hdt d hq)]
                have : i ≠ d := fun e => hm (by rw [e]; exact (r2 d hq).1)
                rw [if_neg this]
                exact h1.tm i
          · rw [hres1]; exact r4
          · rw [hres1]; exact r5
          · rw [hres1]; exact r6
          · rw [hres1]
            intro k hk
            unfold setAll
            rw [lookS_append]
            cases hl : lookS ((cResults dst s.rs).map fun x => (x.1, x.2.2)) k with
            | none => exact absurd (by rw [hres2]; exact hk) (lookS_none.1 hl)
            | some px => exact r7 k px hl
          · intro i m pm ar k D r e1 e2 e3
            obtain ⟨px, g1, g2⟩ := hlook i m pm ar k D r e1 e2 e3
            have hkk : k ∈ as.flatMap AR.keys := List.mem_flatMap.2 ⟨ar, List.mem_of_getElem? e2, root_keys e3⟩
            unfold setAll
            rw [lookS_append, lookS_none.2 (by rw [hres2]; exact fun h => hrk' k h hkk)]
            simp only [g1]
            exact g2
          · rw [hres1]
            intro k hk1 hk2
            unfold setAll
            rw [lookS_append, lookS_none.2 (by rw [hres2]; exact hk1)]
            simp only
            rw [lookS_none.2 (fun hm => hk2 ?_)]
            rw [outs_keys] at hm
            obtain ⟨⟨k', D0⟩, hx, rfl⟩ := List.mem_map.1 hm
            obtain ⟨ar, har, r', hr'⟩ := rootUpd_mem.1 hx
            exact List.mem_flatMap.2 ⟨ar, har, root_keys hr'⟩
        · cases hc
end
end Go.Rsc
