/- Arguments of calls, one by one. No conditions. -/
import Derived.Test.YtdkfgnnebaahaaaRscU
namespace Go.Rsc
open Go.RowKit
set_option linter.unusedVariables false
set_option linter.unusedSimpArgs false

section
variable {P : Program} {w w' : World} {F F' : Set} {Γ : Nat → D} {σ : Nat → PV} {val : Nat → Value} {loc : Nat → Nat} {S : Nat → Set} {C : Cx} {tmps : Array Value}
variable {d d' x y : SD} {cs c : List Value} {p q : PV} {T T' : Set}

/-- A root whose cells stay, and whose tree turns. -/
theorem rootBack {o : Nat} {d : SD} {cs : List Value} {base : Option Nat} {T0 TS Tn : Set} {S' : Nat → Set} {σ' : Nat → PV} {val' : Nat → Value} {loc' : Nat → Nat} {Γ' : Nat → D} (hr : Root w Γ val loc S o d cs base) (hT0 : ∀ b, T0 b → S o b ∧ ∀ l, base = some l → b ≠ l)
    (hTS : ∀ b, TS b → T0 b) (hw : ∀ b, S o b → ¬ TS b → w'.heap[b]? = w.heap[b]?) (hv : val' o = val o) (hl : loc' o = loc o) (hR : R P w' F' d cs (σ' o) (fun b => (T0 b ∧ ¬ TS b) ∨ Tn b)) (hTn : ∀ b, Tn b → S o b → TS b) (hS : ∀ b, (S o b ∧ ¬ TS b) ∨ Tn b → S' o b) :
    Ok P w' F' Γ' σ' val' loc' S' o (Γ o) := by
  have hsub : ∀ b, ((T0 b ∧ ¬ TS b) ∨ Tn b) → S' o b := fun b hb => hS b (hb.imp_left fun h => ⟨(hT0 b h.1).1, h.2⟩)
  rcases hr with ⟨a1, a2, a3⟩ | ⟨t, arr, a1, a2, a3, a4, a5⟩
  · rw [a1]
    exact ⟨cs, by rw [hv]; exact a2, hR.wide hsub⟩
  · have hnl : ¬ TS (loc o) := fun h => (hT0 _ (hTS _ h)).2 _ a5 rfl
    rw [a1]
    refine ⟨arr, _, by rw [hl, hw _ a3 hnl]; exact a2, by rw [hl]; exact hS _ (.inl ⟨a3, hnl⟩), fun b hb => ⟨hsub b hb, ?_⟩, by rw [← a4]; exact hR⟩
    rw [hl]
    intro e
    subst e
    rcases hb with hb | hb
    · exact (hT0 _ hb.1).2 _ a5 rfl
    · exact hnl (hTn _ hb a3)

theorem cArg_ok (h : RelX C Γ σ val loc S F tmps w) {b m : Nat} {pm : PM} {s : Src} {a : AR} (hc : cArg C.P Γ b m pm s = some a) :
    ∃ T : Set, PArg C.P w (fun b => F b ∨ lentOf S a.lent b) pm (argV tmps val b m pm s) (a.arg.eval σ []) T ∧ (ownM pm = false → ∀ b, ¬ T b) ∧ (∀ b', T b' → ∃ k, (k ∈ a.own ∨ ∃ D r, a.root = some (k, D, r)) ∧ S k b') ∧ (backM pm = a.root.isSome) ∧
      (∀ k D r, a.root = some (k, D, r) → D.isRoot = true ∧ (∀ b, T b → S k b) ∧ (a.soft = true → D = Γ k ∧ ((Γ k).isBox = true → S k (loc k) → ¬ T (loc k))) ∧ (a.soft = true ∨ ∃ t d, Γ k = .box t d) ∧ Back C.P w F σ val loc S pm (argV tmps val b m pm s) T k D r) := by
  unfold cArg at hc
  split at hc
  · rename_i dr ax
    split at hc
    · rename_i d' px hl
      split at hc
      · rename_i hcoe
        simp only [Option.some.injEq] at hc
        subst hc
        obtain ⟨cs, hf, hR⟩ := lend_ok h hl []
        exact ⟨Set.none, ⟨cs, hf.coe hcoe, hR.coe hcoe⟩, fun _ b hb => hb, fun b hb => hb.elim, rfl, fun k D r e => by cases e⟩
      · cases hc
    · cases hc
  · rename_i dr
    obtain ⟨h1, h2, h3⟩ := cRp_ok h hc
    exact ⟨Set.none, h1, fun _ b hb => hb, fun b hb => hb.elim, by rw [h3]; rfl, fun k D r e => by rw [h3] at e; cases e⟩
  · rename_i t dr d2
    have key : ∀ (k : Nat), val k = srcV tmps val s → srcD Γ s = Γ k → ∃ T : Set, PArg C.P w (fun b => F b ∨ lentOf S a.lent b) (.ref t dr d2) (argV tmps val b m (.ref t dr d2) s) (a.arg.eval σ []) T ∧ (ownM (.ref t dr d2) = false → ∀ b, ¬ T b) ∧ (∀ b', T b' → ∃ k, (k ∈ a.own ∨ ∃ D r, a.root = some (k, D, r)) ∧ S k b') ∧ (backM (.ref t dr d2) = a.root.isSome) ∧
      (∀ k D r, a.root = some (k, D, r) → D.isRoot = true ∧ (∀ b, T b → S k b) ∧ (a.soft = true → D = Γ k ∧ ((Γ k).isBox = true → S k (loc k) → ¬ T (loc k))) ∧ (a.soft = true ∨ ∃ t d, Γ k = .box t d) ∧ Back C.P w F σ val loc S (.ref t dr d2) (argV tmps val b m (.ref t dr d2) s) T k D r) := by
      intro k hv hd
      rw [hd] at hc
      have hok := h.ok k
      split at hc
      · rename_i o hΓ
        rw [hΓ] at hok
        split at hc
        · rename_i t' x hΓo
          split at hc
          · rename_i hcond
            simp only [Bool.and_eq_true, beq_iff] at hcond
            obtain ⟨rfl, hcoe⟩ := hcond
            simp only [Option.some.injEq] at hc
            subst hc
            have hko := h.ok o
            rw [hΓo] at hko
            obtain ⟨arr, T0, a1, a2, a3, a4⟩ := hko
            have hav : argV tmps val b m (.ref t dr d2) s = .pointer (some ⟨loc o, 0, none⟩) := by
              show srcV tmps val s = _
              rw [← hv]; exact hok.1
            refine ⟨S o, ⟨loc o, arr, T0, hav, a1, a2, a3, (a4.coe hcoe).more (fun b hb => .inl hb)⟩, fun e => (by cases e), fun b' hb' => ⟨o, .inr ⟨_, _, rfl⟩, hb'⟩, rfl, fun k' D r e => ?_⟩
            simp only [Option.some.injEq, Prod.mk.injEq] at e
            obtain ⟨rfl, rfl, rfl⟩ := e
            refine ⟨rfl, fun b hb => hb, fun e => (by cases e), .inr ⟨_, _, hΓo⟩, ?_⟩
            intro w' F' T' q Γ' σ' val' loc' S' ho hF hwF hw hT' hσ hvl hll hS
            obtain ⟨b1, arr1, T1, e1, e2, e3, e4, e5⟩ := ho
            rw [hav] at e1
            simp only [Value.pointer.injEq, Option.some.injEq, Addr.mk.injEq, and_true] at e1
            subst e1
            exact ⟨arr1, T1, by rw [hll]; exact e2, by rw [hll]; exact hS _ (.inr e3), fun b' hb' => ⟨hS _ (.inr (e4 b' hb').1), by rw [hll]; exact (e4 b' hb').2⟩, by rw [hσ]; exact e5⟩
          · cases hc
        · cases hc
      · cases hc
    cases s with
    | key k => exact key k rfl rfl
    | op ax =>
      cases ax with
      | tmp t' => exact key (tk t') (h.tm t') rfl
      | _ => simp [srcD] at hc
  · rename_i dr ax
    split at hc
    · rename_i d' hΓ
      split at hc
      · rename_i hcoe
        simp only [Option.some.injEq] at hc
        subst hc
        have hok := h.ok (vk (b + m))
        rw [hΓ] at hok
        obtain ⟨cs, hf, hR⟩ := hok
        exact ⟨S (vk (b + m)), ⟨cs, hf.coe hcoe, (hR.coe hcoe).more (fun b hb => .inl hb)⟩, fun e => (by cases e), fun b' hb' => ⟨_, .inl (by simp), hb'⟩, rfl, fun k D r e => by cases e⟩
      · cases hc
    · cases hc
  · rename_i dr t'
    have hok := h.ok (tk t')
    have hav : argV tmps val b m (.mut dr) (.op (.tmp t')) = val (tk t') := (h.tm t').symm
    rw [hav]
    split at hc
    · rename_i d' hΓ
      rw [hΓ] at hok
      split at hc
      · rename_i e
        subst e
        simp only [Option.some.injEq] at hc
        subst hc
        obtain ⟨cs, hf, hR⟩ := hok
        refine ⟨S (tk t'), ⟨cs, hf, hR.more (fun b hb => .inl hb)⟩, fun e => (by cases e), fun b' hb' => ⟨_, .inr ⟨_, _, rfl⟩, hb'⟩, rfl, fun k D r e => ?_⟩
        simp only [Option.some.injEq, Prod.mk.injEq] at e
        obtain ⟨rfl, rfl, rfl⟩ := e
        refine ⟨rfl, fun b hb => hb, fun _ => ⟨hΓ.symm, fun e => by rw [hΓ] at e; cases e⟩, .inl rfl, ?_⟩
        intro w' F' T' q Γ' σ' val' loc' S' ho hF hwF hw hT' hσ hvl hll hS
        obtain ⟨cs', g1, g2⟩ := ho
        exact ⟨cs', by rw [hvl]; exact g1, by rw [hσ]; exact g2.wide (fun b' hb' => hS b' (.inr hb'))⟩
      · cases hc
    · rename_i o π hΓ
      rw [hΓ] at hok
      obtain ⟨⟨d0, cs, base, x, c, ad, g1, g2, g3⟩, g4⟩ := hok
      split at hc
      · rename_i hsh
        rw [g2.shape g1] at hsh
        simp only [Option.some.injEq] at hsh
        subst hsh
        simp only [Option.some.injEq] at hc
        subst hc
        obtain ⟨T0, hR, hT0⟩ := h.rootR g1
        have hisr : (Γ o).isRoot = true := by
          rcases g1 with ⟨a1, _⟩ | ⟨_, _, a1, _⟩ <;> (rw [a1]; rfl)
        -- the place's own footprint
        have place : ∃ TS : Set, R C.P w F x c (getAt (σ o) π (σ (tk t')).toInt.toNat) TS ∧ (∀ b, TS b → T0 b) ∧ ∀ {w' : World} {F' T' : Set} {q : PV}, R C.P w' F' x c q T' → (∀ b, F b → F' b) → (∀ b, F b → w'.heap[b]? = w.heap[b]?) → (∀ b, T0 b → ¬ TS b → w'.heap[b]? = w.heap[b]?) → (∀ b, T' b → T0 b → TS b) →
            R C.P w' F' d0 cs (putAt (σ o) π (σ (tk t')).toInt.toNat q) (fun b => (T0 b ∧ ¬ TS b) ∨ T' b) := by
          unfold Sub at g2
          cases hp : π.post with
          | none =>
            simp only [hp] at g2
            obtain ⟨t1, t2, t3⟩ := g2
            obtain ⟨pre, c1, post, T1, ecs, hlen, hR1, hT1, wand⟩ := R.focus π.pre hR t1
            have hc1 : c = c1 := by rw [t2, ecs, take_drop_mid hlen hR1.len]
            subst hc1
            refine ⟨T1, by unfold getAt; simp only [hp]; exact hR1, hT1, ?_⟩
            intro w' F' T' q hq hF hwF hw hT'
            have := wand hF (fun b hb => hb.elim (hwF b) (fun hb => hw b hb.1 hb.2)) hq hT'
            rw [SD.put_get π.pre t1, ← ecs] at this
            unfold putAt
            simp only [hp]
            exact this
          | some φ =>
            simp only [hp] at g2
            obtain ⟨e, ml, bl, n, cap, arr, u1, u2, u3, u4, u5, u6, u7, u8⟩ := g2
            generalize hj : (σ (tk t')).toInt.toNat = j at u3 u7 u8
            obtain ⟨pre, c1, post, T1, ecs, hlen, hR1, hT1, wand⟩ := R.focus π.pre hR u1
            have hc1 : c1 = [.slice (some ⟨bl, 0, none⟩) n cap] := by rw [← u2, ecs, take_drop_mid (m := 1) hlen hR1.len]
            subst hc1
            obtain ⟨ps, hps, hv | ⟨b0, cap0, arr0, hv, v1, v2, v3, v4, v5, v6⟩⟩ := R.ofOwn hR1
            · simp at hv
            · simp only [Value.slice.injEq, Option.some.injEq, Addr.mk.injEq, and_true] at hv
              obtain ⟨rfl, rfl, rfl⟩ := hv
              rw [u5] at v1
              simp only [Option.some.injEq, Obj.cells.injEq, and_true] at v1
              subst v1
              rw [hps] at hR1
              have hje := getD_some (l := ps) (j := j) (by omega) .unit
              obtain ⟨b1, cap1, arr1, T2, w1, w2, w3, w4, w5, w6, w7, w8, w9, hR2, wand2⟩ := R.idx hR1 hje
              simp only [Value.slice.injEq, Option.some.injEq, Addr.mk.injEq, and_true, true_and] at w1
              obtain ⟨rfl, rfl⟩ := w1
              rw [u5] at w2
              simp only [Option.some.injEq, Obj.cells.injEq, and_true, true_and] at w2
              subst w2
              obtain ⟨pre2, c2, post2, T3, ecs2, hlen2, hR3, hT3, wand3⟩ := R.focus φ hR2 u6
              have hc2 : c = c2 := by rw [u7, ecs2, take_drop_mid hlen2 hR3.len]
              subst hc2
              refine ⟨T3, by unfold getAt; simp only [hp, hps]; exact hR3, fun b hb => hT1 b (w4 b (hT3 b hb)), ?_⟩
              intro w' F' T' q hq hF hwF hw hT'
              have q2 := wand3 hF (fun b hb => hb.elim (hwF b) (fun hb => hw b (hT1 b (w4 b hb.1)) hb.2)) hq (fun b h1 h2 => hT' b h1 (hT1 b (w4 b h2)))
              rw [SD.put_get φ u6, ← ecs2] at q2
              have hbl : w'.heap[bl]? = some (.cells arr e (0, 0)) := by
                rw [hw bl (hT1 bl v2) (fun h3 => w5 (hT3 bl h3))]; exact u5
              have q3 := wand2 hF (fun b hb => hb.elim (hwF b) (fun hb => hw b (hT1 b hb.1) (fun h3 => hb.2.1 (hT3 b h3)))) hbl rfl (fun _ _ => rfl) q2 (fun b hb hb2 => hb.elim (fun hb => hb.1) (fun hb => hT3 b (hT' b hb (hT1 b hb2))))
              have q4 := wand hF (fun b hb => hb.elim (hwF b) (fun hb => hw b hb.1 (fun h3 => hb.2 (w4 b (hT3 b h3))))) q3 (fun b hb hb2 => by
                rcases hb with hb | hb | hb
                · exact hb.1
                · exact w4 b hb.1
                · exact w4 b (hT3 b (hT' b hb hb2)))
              rw [SD.put_get π.pre u1, ← ecs] at q4
              unfold putAt
              simp only [hp, hps]
              refine q4.imp (fun b hb => hb) (fun b hb => ?_) (fun _ _ => rfl)
              rcases hb with hb | hb | hb | hb
              · exact .inl ⟨hb.1, fun h3 => hb.2 (w4 b (hT3 b h3))⟩
              · exact .inl ⟨hT1 b hb.1, fun h3 => hb.2 (hT3 b h3)⟩
              · exact .inl ⟨hT1 b (w4 b hb.1), hb.2⟩
              · exact .inr hb
        obtain ⟨TS, hRS, hTS, wandS⟩ := place
        refine ⟨TS, ⟨c, g3, ?_⟩, fun e => (by cases e), fun b' hb' => ⟨o, .inr ⟨_, _, rfl⟩, (hT0 b' (hTS b' hb')).1⟩, rfl, fun k D r e => ?_⟩
        · show R C.P w _ x c ((getPX o π (.k (tk t'))).eval σ []) TS
          rw [getPX_eval]
          exact hRS.more (fun b hb => .inl hb)
        · simp only [Option.some.injEq, Prod.mk.injEq] at e
          obtain ⟨rfl, rfl, rfl⟩ := e
          refine ⟨hisr, fun b hb => (hT0 b (hTS b hb)).1, fun _ => ⟨rfl, fun hbx _ hT => ?_⟩, .inl rfl, ?_⟩
          · rcases g1 with ⟨a1, _⟩ | ⟨_, _, a1, _, _, _, a5⟩
            · rw [a1] at hbx; cases hbx
            · exact (hT0 _ (hTS _ hT)).2 _ a5 rfl
          · intro w' F' T' q Γ' σ' val' loc' S' ho hF hwF hw hT' hσ hvl hll hS
            obtain ⟨cs', e1, e2⟩ := ho
            have := e1.uniq g3
            subst this
            have hq := wandS e2 hF hwF (fun b hb hn => hw b (hT0 b hb).1 hn) (fun b hb hb2 => hT' b hb (hT0 b hb2).1)
            refine rootBack (TS := TS) (Tn := T') g1 hT0 hTS hw hvl hll ?_ hT' hS
            rw [hσ]
            exact hq
      · cases hc
    · cases hc
  · cases hc
end
end Go.Rsc
