/- Calls, and one operation: what compiles at what is known of some keys compiles alike where more is known. No conditions. -/
import Derived.Test.YtdkfgnnebaahaaaRscZe
namespace Go.Rsc
open Go.RowKit
set_option linter.unusedVariables false
set_option linter.unusedSimpArgs false

section
variable {P : Program} {Γ Γ' : Nat → D} {o k t : Nat} {π : Pth} {sg : FuncId → Option Sig}

theorem srcD_mono (h : Le Γ Γ') {s : Src} (hn : srcD Γ s ≠ .none) : srcD Γ' s = srcD Γ s := by
  cases s with
  | key k => exact h k hn
  | op x => cases x with
    | tmp t => exact h _ hn
    | _ => rfl
theorem cloOf_mono (h : Le Γ Γ') {s : Src} {r : FuncId × List Nat} (hc : cloOf Γ s = some r) : cloOf Γ' s = some r := by
  unfold cloOf at hc ⊢
  split at hc
  · exact hc
  · have hn : srcD Γ s ≠ .none := fun e => by simp [e] at hc
    rw [srcD_mono h hn]; exact hc
theorem flatS0_mono (h : Le Γ Γ') : ∀ {ps : List PM} {ss : List Src} {r : List Src}, flatS0 Γ ps ss = some r → flatS0 Γ' ps ss = some r
  | [], [], r, hc => hc
  | [], _ :: _, r, hc => by cases hc
  | p :: ps, [], r, hc => by cases p <;> cases hc
  | p :: ps, s :: ss, r, hc => by
    cases p
    case clo f cs =>
      simp only [flatS0] at hc ⊢
      cases h1 : cloOf Γ s with
      | none => simp [h1] at hc
      | some q =>
        cases h2 : flatS0 Γ ps ss with
        | none => simp [h1, h2] at hc
        | some l =>
          simp only [cloOf_mono h h1, flatS0_mono h h2]
          simp only [h1, h2] at hc
          exact hc
    all_goals
      simp only [flatS0] at hc ⊢
      obtain ⟨l, h1, h2⟩ := Option.map_eq_some_iff.1 hc
      rw [flatS0_mono h h1]
      simp [h2]
theorem takeAs_mono {b : Nat} : ∀ {l : List ((Nat × PM) × Src)} {Γ Γ' : Nat → D} {r : List MS}, Le Γ Γ' → takeAs Γ b l = some r → takeAs Γ' b l = some r
  | [], Γ, Γ', r, h, hc => hc
  | ((m, p), s) :: l, Γ, Γ', r, h, hc => by
    cases p
    case mv d =>
      cases s with
      | op x =>
        simp only [takeAs] at hc ⊢
        cases ht : take Γ x (vk (b + m)) with
        | none => simp [ht] at hc
        | some q =>
          obtain ⟨d', ms⟩ := q
          rw [take_mono h ht]
          rw [ht] at hc
          simp only at hc ⊢
          obtain ⟨l, h1, h2⟩ := Option.map_eq_some_iff.1 hc
          rw [takeAs_mono (h.apm ms) h1]
          simp [h2]
      | key k => simp [takeAs] at hc
    all_goals
      simp only [takeAs] at hc ⊢
      exact takeAs_mono h hc
theorem cRp_mono (h : Le Γ Γ') {d : SD} {s : Src} {r : AR} (hc : cRp P Γ d s = some r) : cRp P Γ' d s = some r := by
  unfold cRp at hc ⊢
  have hn : srcD Γ s ≠ .none := fun e => by simp [e] at hc
  rw [srcD_mono h hn]
  cases hs : srcD Γ s <;> simp only [hs] at hc ⊢ <;> try exact hc
  case bp o =>
    by_cases ho : Γ o = .none
    · simp [ho] at hc
    · rw [h _ ho]; exact hc
  case ptr o π =>
    cases hr : shapeAt P Γ o π with
    | none => simp [hr] at hc
    | some d => rw [shapeAt_eq (h.shapeAt hr), hr]; rw [hr] at hc; exact hc
theorem cArg_mono (h : Le Γ Γ') {b m : Nat} {p : PM} {s : Src} {r : AR} (hc : cArg P Γ b m p s = some r) : cArg P Γ' b m p s = some r := by
  cases p with
  | ro d => cases s with
    | key k => cases hc
    | op x =>
      simp only [cArg] at hc ⊢
      cases hl : lend P Γ x with
      | none => simp [hl] at hc
      | some q => rw [(lend_mono h hl).1, (lend_mono h hl).2]; rw [hl] at hc; exact hc
  | rp d =>
    simp only [cArg] at hc ⊢
    exact cRp_mono h hc
  | ref ty d d' =>
    simp only [cArg] at hc ⊢
    have hn : srcD Γ s ≠ .none := fun e => by simp [e] at hc
    rw [srcD_mono h hn]
    cases hs : srcD Γ s <;> simp only [hs] at hc ⊢ <;> try exact hc
    case bp o =>
      by_cases ho : Γ o = .none
      · simp [ho] at hc
      · rw [h _ ho]; exact hc
  | mv d => cases s with
    | key k => cases hc
    | op x =>
      simp only [cArg] at hc ⊢
      by_cases ho : Γ (vk (b + m)) = .none
      · simp [ho] at hc
      · rw [h _ ho]; exact hc
  | «mut» d => cases s with
    | key k => cases hc
    | op x => cases x with
      | tmp p =>
        simp only [cArg] at hc ⊢
        by_cases hn : Γ (tk p) = .none
        · simp [hn] at hc
        · rw [h _ hn]
          cases hΓ : Γ (tk p) <;> simp only [hΓ] at hc ⊢ <;> try exact hc
          case view o π =>
            by_cases hs : shapeAt P Γ o π = some d
            · rw [if_pos hs] at hc
              have e := h.shapeAt hs
              rw [shapeAt_eq e, if_pos hs, e]; exact hc
            · rw [if_neg hs] at hc; cases hc
      | _ => cases hc
  | clo f cs => cases hc
theorem cArgs_mono (h : Le Γ Γ') {b : Nat} : ∀ {l : List ((Nat × PM) × Src)} {r : List AR}, cArgs P Γ b l = some r → cArgs P Γ' b l = some r
  | [], r, hc => hc
  | ((m, p), s) :: l, r, hc => by
    simp only [cArgs] at hc ⊢
    cases h1 : cArg P Γ b m p s with
    | none => simp [h1] at hc
    | some a =>
      cases h2 : cArgs P Γ b l with
      | none => simp [h1, h2] at hc
      | some as =>
        rw [cArg_mono h h1, cArgs_mono h h2]
        rw [h1, h2] at hc
        exact hc
theorem isRoot_mono (h : Le Γ Γ') {k : Nat} (hr : (Γ k).isRoot = true) : (Γ' k).isRoot = true := by
  rw [h k (fun e => by simp [e, D.isRoot] at hr)]; exact hr
theorem cCall1_mono (h : Le Γ Γ') {b : Nat} {s : Sig} {dst : Option Nat} {f : FuncId} {args : List Src} {r : SR} (hc : cCall1 b P s Γ dst f args = some r) : cCall1 b P s Γ' dst f args = some r := by
  unfold cCall1 at hc ⊢
  cases h1 : flatS0 Γ s.ps args with
  | none => simp [h1] at hc
  | some ss =>
    rw [flatS0_mono h h1]
    rw [h1] at hc
    simp only at hc ⊢
    cases h2 : takeAs Γ b ((flatP s.ps 0).zip ss) with
    | none => simp [h2] at hc
    | some pre =>
      rw [takeAs_mono h h2]
      rw [h2] at hc
      simp only at hc ⊢
      have h' := h.fold pre
      cases h3 : cArgs P (pre.foldl apm Γ) b ((flatP s.ps 0).zip ss) with
      | none => simp [h3] at hc
      | some as =>
        rw [cArgs_mono h' h3]
        rw [h3] at hc
        simp only at hc ⊢
        split at hc
        · rename_i hcond
          rw [if_pos ?_]
          · exact hc
          · simp only [Bool.and_eq_true, List.all_eq_true] at hcond ⊢
            obtain ⟨⟨⟨⟨⟨⟨⟨⟨⟨⟨c1, c2⟩, c3⟩, c4⟩, c5⟩, c6⟩, c7⟩, c8⟩, c9⟩, c10⟩, c11⟩ := hcond
            exact ⟨⟨⟨⟨⟨⟨⟨⟨⟨⟨c1, c2⟩, c3⟩, fun k hk => ⟨(c4 k hk).1, isRoot_mono h' (c4 k hk).2⟩⟩, c5⟩, c6⟩, c7⟩, c8⟩, c9⟩, c10⟩, c11⟩
        · cases hc
theorem cCall_mono (h : Le Γ Γ') {j b : Nat} {dst : Option Nat} {f : FuncId} {args : List Src} {r : SR} (hc : cCall j b P sg Γ dst f args = some r) : cCall j b P sg Γ' dst f args = some r := by
  unfold cCall at hc ⊢
  cases hs : sg (f + 4096 * j) with
  | none => simp [hs] at hc
  | some s => rw [hs] at hc; exact cCall1_mono h hc

theorem cNilP_mono (h : Le Γ Γ') {dst : Nat} {op : BinOp} {xt : TypeId} {x : Operand} {r : SR} (hc : cNilP P Γ dst op xt x = some r) : cNilP P Γ' dst op xt x = some r := by
  unfold cNilP at hc ⊢
  split at hc
  · rename_i e t px hu hx
    simp only [hu, plainOf_mono h hx]
    exact hc
  · rename_i e t px hu hx
    simp only [hu, plainOf_mono h hx]
    exact hc
  · cases hc
theorem cBoxE_mono (h : Le Γ Γ') {dst : Nat} {t : TypeId} {x : Operand} {r : SR} (hc : cBoxE Γ dst t x = some r) : cBoxE Γ' dst t x = some r := by
  unfold cBoxE at hc ⊢
  split at hc
  · rename_i q
    split at hc
    · rename_i o hΓ
      rw [h.of hΓ (by simp)]
      exact hc
    · cases hc
  · cases hc
theorem cBox_none (h : Le Γ Γ') {b dst : Nat} {t : TypeId} {x : Operand} {r : SR} (hc : cBoxE Γ dst t x = some r) : cBox b P Γ' dst t x = none := by
  unfold cBoxE at hc
  split at hc
  · rename_i q
    split at hc
    · rename_i o hΓ
      have hΓ' := h.of hΓ (by simp)
      unfold cBox pinned
      simp [hΓ', take]
    · cases hc
  · cases hc
theorem cBuildE_mono (h : Le Γ Γ') {dst : Nat} {t : TypeId} {parts : List (Nat × Operand)} {r : SR} (hc : cBuildE P Γ dst t parts = some r) : cBuildE P Γ' dst t parts = some r := by
  unfold cBuildE at hc ⊢
  split at hc
  · rename_i xa q xc
    split at hc
    · rename_i pa o dc pc hx hΓ hy
      simp only [plainOf_mono h hx, h.of hΓ (by simp), plainOf_mono h hy]
      exact hc
    · cases hc
  · cases hc
theorem cBuild_none (h : Le Γ Γ') {b dst : Nat} {t : TypeId} {parts : Array (Nat × Operand)} {r : SR} (hc : cBuildE P Γ dst t parts.toList = some r) : cBuild b P Γ' dst t parts = none := by
  unfold cBuildE at hc
  split at hc
  · rename_i xa q xc hparts
    split at hc
    · rename_i pa o dc pc hx hΓ hy
      have hΓ' := h.of hΓ (by simp)
      have htk : takes Γ' (parts.toList.map (·.2)) b = none := by
        rw [hparts]
        simp only [List.map_cons, List.map_nil, takes]
        cases ht : take Γ' xa (vk b) with
        | none => rfl
        | some z =>
          obtain ⟨d0, m0⟩ := z
          simp only
          have hm : ∀ j, vk j ≠ tk q := fun j e => by unfold vk tk at e; omega
          have hup : look m0.upd (tk q) = none := by
            have hx' := plainOf_mono h hx
            cases xa with
            | const c =>
              simp only [take] at ht
              obtain ⟨⟨d1, p1⟩, _, e⟩ := Option.map_eq_some_iff.1 ht
              simp only [Prod.mk.injEq] at e
              rw [← e.2]
              simp [look_cons, look_nil, Ne.symm (hm b)]
            | tmp u =>
              simp only [plainOf] at hx'
              split at hx'
              · rename_i d1 hd1
                split at hx'
                · rename_i hp
                  simp only [take, hd1, hp, if_true, Option.some.injEq, Prod.mk.injEq] at ht
                  rw [← ht.2]
                  simp [look_cons, look_nil, Ne.symm (hm b)]
                · cases hx'
              · cases hx'
            | _ => simp [take] at ht
          have h1 : apm Γ' m0 (tk q) = .bp o ∨ apm Γ' m0 (tk q) = .none := by
            show ap Γ' m0.upd m0.kw m0.so (tk q) = _ ∨ ap Γ' m0.upd m0.kw m0.so (tk q) = _
            unfold ap
            rw [hup, hΓ']
            simp only
            split
            · exact .inr rfl
            · exact .inl rfl
          have h2 : take (apm Γ' m0) (.tmp q) (vk (b + 1)) = none := by
            rcases h1 with e | e <;> simp [take, e]
          rw [h2]
          rfl
      unfold cBuild
      split
      · rw [htk]
      · rfl
    · cases hc
  · cases hc
theorem cStoreR_mono (h : Le Γ Γ') {t : TypeId} {a x : Operand} {r : SR} (hc : cStoreR P Γ t a x = some r) : cStoreR P Γ' t a x = some r := by
  unfold cStoreR at hc ⊢
  split at hc
  · rename_i p q
    split at hc
    · rename_i o j oe hp hq
      simp only [h.of hp (by simp), h.of hq (by simp)]
      split at hc
      · rename_i t' d o' h1 h2
        rw [h.of h1 (by simp), h.of h2 (by simp)]
        exact hc
      · cases hc
    · cases hc
  · cases hc
theorem cStoreR_others (h : Le Γ Γ') {b : Nat} {t : TypeId} {a x : Operand} {r : SR} (hc : cStoreR P Γ t a x = some r) : cStoreE P Γ' t a x = none ∧ cStore b P Γ' t a x = none := by
  unfold cStoreR at hc
  split at hc
  · rename_i p q
    split at hc
    · rename_i o j oe hp hq
      have hq' := h.of hq (by simp)
      have hp' := h.of hp (by simp)
      constructor
      · unfold cStoreE
        simp [hq', hp']
      · unfold cStore
        simp [take, hq']
    · cases hc
  · cases hc
theorem cop_mono (h : Le Γ Γ') {j b : Nat} {o : Oper} {r : SR} (hc : cop j b P sg Γ o = some r) : cop j b P sg Γ' o = some r := by
  unfold cop at hc ⊢
  split at hc
  · exact cMove_mono h hc
  · exact cAssign_mono h hc
  · exact cPick_mono h hc
  · exact hc
  · split at hc
    · rename_i r0 hr0
      rw [cBox_mono h hr0]
      exact hc
    · rw [cBox_none h hc]
      exact cBoxE_mono h hc
  · split at hc
    · rename_i r0 hr0
      rw [cBuild_mono h hr0]
      exact hc
    · rw [cBuild_none h hc]
      exact cBuildE_mono h hc
  · exact hc
  · exact hc
  · exact cBuildSlice_mono h hc
  · exact cLoad_mono h hc
  · split at hc
    · rename_i r0 hr0
      rw [cStoreE_mono h hr0]
      exact hc
    · rename_i hr0
      split at hc
      · rename_i r1 hr1
        rw [cStoreE_none h hr0 hr1]
        simp only
        rw [cStore_mono h hr1]
        exact hc
      · obtain ⟨g1, g2⟩ := cStoreR_others (b := b) h hc
        rw [g1]
        simp only
        rw [g2]
        exact cStoreR_mono h hc
  · exact cNil_mono h hc
  · split at hc
    · rename_i hs; rw [if_pos hs]; exact cIsNil_mono h hc
    · rename_i hs
      rw [if_neg hs]
      split at hc
      · rename_i hs2; rw [if_pos hs2]; exact cNilP_mono h hc
      · rename_i hs2; rw [if_neg hs2]; exact cBin_mono h hc
  · exact cUn_mono h hc
  · split at hc
    · rename_i hs; rw [if_pos hs]; exact cS2B_mono h hc
    · rename_i hs; rw [if_neg hs]; exact cConvert_mono h hc
  · exact hc
  · exact cMakeSlice_mono h hc
  · exact hc
  · exact cLookup_mono h hc
  · exact cMapUpd_mono h hc
  · exact cSlice_mono h hc
  · exact cFieldAddr_mono h hc
  · exact cField_mono h hc
  · exact cIndexAddr_mono h hc
  · exact cIndex_mono h hc
  · exact cExtract_mono h hc
  · rename_i cl dst e1 e2
    split at hc
    · rename_i ax ec ea
      split at hc
      · obtain ⟨n, h1, h2⟩ := Option.map_eq_some_iff.1 hc
        obtain ⟨bb, h3, h4⟩ := Option.bind_eq_some_iff.1 h1
        simp only [h3, Option.bind_some, lenPX_mono h h4, Option.map_some, h2]
      · cases hc
    · split at hc
      · split at hc
        · rename_i r0 hr0
          rw [cAppE_mono h hr0]
          exact hc
        · rw [cAppE_none h hc]
          simp only
          split at hc
          · rename_i hs; rw [if_pos hs]; exact cAppend_mono h hc
          · rename_i hs; rw [if_neg hs]; exact cAppendS_mono h hc
      · cases hc
    · split at hc
      · exact cCopy_mono h hc
      · cases hc
    · split at hc
      · exact cMin_mono h hc
      · cases hc
    · split at hc
      · rename_i hlt
        rw [if_pos hlt]; exact cCall_mono h hc
      · cases hc
    · rename_i t ec
      split at hc
      · rename_i f ks hΓ
        rw [h.of hΓ (by simp)]
        simp only
        split at hc
        · rename_i hlt
          rw [if_pos hlt]; exact cCall_mono h hc
        · cases hc
      · cases hc
    · cases hc
  · cases hc

theorem fzOne_mono (h : Le Γ Γ') {x : Operand} {l : List MS} (hc : fzOne P Γ x = some l) : fzOne P Γ' x = some l := by
  cases x with
  | tmp t =>
    by_cases hn : Γ (tk t) = .none
    · simp [fzOne, hn] at hc
    · simp only [fzOne, h _ hn] at hc ⊢
      cases hΓ : Γ (tk t) <;> simp only [hΓ] at hc ⊢ <;> try exact hc
      case bp o =>
        by_cases ho : Γ o = .none
        · simp [ho] at hc
        · rw [h _ ho]; exact hc
      all_goals
        rename_i o π
        split at hc
        · rename_i hb; rw [if_pos hb]; exact hc
        · rename_i hb
          rw [if_neg hb]
          by_cases ho : Γ o = .none
          · simp [ho] at hc
          · rw [h _ ho]
            cases hΓo : Γ o <;> simp only [hΓo] at hc ⊢ <;> try exact hc
            obtain ⟨q, h1, h2⟩ := Option.map_eq_some_iff.1 hc
            rw [(lend_mono h h1).1]
            simpa using h2
  | _ => exact hc
theorem loOne_mono (h : Le Γ Γ') {x : Operand} {l : List MS} (hc : loOne Γ x = some l) : loOne Γ' x = some l := by
  cases x with
  | tmp t =>
    by_cases hn : Γ (tk t) = .none
    · simp [loOne, hn] at hc
    · simp only [loOne, h _ hn] at hc ⊢
      cases hΓ : Γ (tk t) <;> simp only [hΓ] at hc ⊢ <;> try exact hc
      rename_i o π
      split at hc
      · rename_i hb; rw [if_pos hb]; exact hc
      · rename_i hb
        rw [if_neg hb]
        by_cases ho : Γ o = .none
        · simp [ho] at hc
        · rw [h _ ho]; exact hc
  | _ => exact hc
theorem fzMS_mono {lo : Bool} : ∀ {xs : List Operand} {Γ Γ' : Nat → D} {l : List MS}, Le Γ Γ' → fzMS lo P Γ xs = some l → fzMS lo P Γ' xs = some l
  | [], Γ, Γ', l, h, hc => hc
  | x :: xs, Γ, Γ', l, h, hc => by
    simp only [fzMS] at hc ⊢
    cases h1 : (if lo = true then loOne Γ x else fzOne P Γ x) with
    | none => simp [h1] at hc
    | some m =>
      have h1' : (if lo = true then loOne Γ' x else fzOne P Γ' x) = some m := by
        split at h1
        · rename_i hl; rw [if_pos hl]; exact loOne_mono h h1
        · rename_i hl; rw [if_neg hl]; exact fzOne_mono h h1
      rw [h1']
      rw [h1] at hc
      simp only at hc ⊢
      obtain ⟨q, h2, h3⟩ := Option.map_eq_some_iff.1 hc
      rw [fzMS_mono (h.fold m) h2]
      simpa using h3
theorem copZ_mono (h : Le Γ Γ') {lo : Bool} {j b : Nat} {o : Oper} {r : SR} (hc : copZ lo j b P sg Γ o = some r) : copZ lo j b P sg Γ' o = some r := by
  unfold copZ at hc ⊢
  cases h1 : fzMS lo P Γ o.op.operands.toList with
  | none => simp [h1] at hc
  | some l =>
    rw [fzMS_mono h h1]
    rw [h1] at hc
    cases l with
    | nil => cases hc
    | cons m ms =>
      simp only at hc ⊢
      obtain ⟨q, h2, h3⟩ := Option.map_eq_some_iff.1 hc
      rw [cop_mono (h.fold (m :: ms)) h2]
      simpa using h3
theorem copF_mono (h : Le Γ Γ') {j b : Nat} {o : Oper} {r : SR} (hc : copF j b P sg Γ o = some r) : copF j b P sg Γ' o = some r := by
  unfold copF at hc ⊢
  split at hc
  · rename_i hj; rw [if_pos hj]; exact cop_mono h hc
  · rename_i hj
    rw [if_neg hj]
    split at hc
    · rename_i hj2; rw [if_pos hj2]; exact copZ_mono h hc
    · rename_i hj2; rw [if_neg hj2]; exact copZ_mono h hc

theorem gcond_mono (h : Le Γ Γ') {g : Nat} {o : Oper} {r : SR} (hc : gcond Γ g o r = true) : gcond Γ' g o r = true := by
  unfold gcond at hc ⊢
  simp only [Bool.and_eq_true, List.all_eq_true] at hc ⊢
  obtain ⟨⟨⟨⟨⟨c1, c2⟩, c3⟩, c4⟩, c5⟩, c6⟩ := hc
  refine ⟨⟨⟨⟨⟨c1, ?_⟩, fun x hx => ?_⟩, c4⟩, c5⟩, c6⟩
  · have hn : Γ g ≠ .none := fun e => by simp [e] at c2
    rw [h _ hn]; exact c2
  · have := c3 x hx
    simp only [Bool.or_eq_true, Bool.and_eq_true, beq_iff_eq, List.all_eq_true] at this ⊢
    refine this.imp (fun h1 => ⟨h1.1, fun q hq => ⟨(h1.2 q hq).1, (h1.2 q hq).2.imp_left (isRoot_mono h)⟩⟩) fun h1 => ⟨?_, h1.2⟩
    refine h.of h1.1 fun e => ?_
    have := h1.2.1
    rw [e] at this
    simp [D.isRoot] at this
theorem gopK_mono (h : Le Γ Γ') {j i : Nat} {ops : Array Oper} {o : Oper} {r : Option (Nat × Bool) × SR} (hc : gopK j i P sg ops Γ o = some r) : gopK j i P sg ops Γ' o = some r := by
  unfold gopK at hc ⊢
  split at hc
  · obtain ⟨q, h1, h2⟩ := Option.map_eq_some_iff.1 hc
    rw [copF_mono h h1]
    simp [h2]
  · rename_i n b hg
    split at hc
    · cases hc
    · rename_i t ht
      cases hr : cop j (64 * i) P sg (under Γ (tk t) b) o with
      | none => simp only [hr] at hc; cases hc
      | some r0 =>
        simp only [hr] at hc
        simp only [cop_mono (h.under _ _) hr]
        by_cases hcond : gcond Γ (tk t) o r0 = true
        · rw [if_pos hcond] at hc
          rw [if_pos (gcond_mono h hcond)]; exact hc
        · rw [if_neg hcond] at hc; cases hc
end
end Go.Rsc
