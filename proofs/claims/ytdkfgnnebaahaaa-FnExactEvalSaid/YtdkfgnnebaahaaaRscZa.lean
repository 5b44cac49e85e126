/- The frame behind a call. No conditions. -/
import Derived.Test.YtdkfgnnebaahaaaRscZ
namespace Go.Rsc
open Go.RowKit
set_option linter.unusedVariables false
set_option linter.unusedSimpArgs false

section
variable {w w' : World} {F F2 : Set} {Γ : Nat → D} {σ σ' : Nat → PV} {val : Nat → Value} {loc : Nat → Nat} {S : Nat → Set} {C : Cx} {tmps tmps' : Array Value}

/-- What came back to a root. -/
def backTo (ps : List PM) (as : List AR) (T' : Nat → Set) (k : Nat) : Set := fun b => ∃ (i : Nat) (m : Nat) (pm : PM) (a : AR) (D : D) (r : Option (Pth × PX)), (flatP ps 0)[i]? = some (m, pm) ∧ as[i]? = some a ∧ a.root = some (k, D, r) ∧ T' m b
open Classical in
noncomputable def afterS (S : Nat → Set) (RK : List Nat) (SR : Nat → Set) (ps : List PM) (as : List AR) (T T' : Nat → Set) (k : Nat) : Set :=
  if k ∈ RK then SR k else if k ∈ as.flatMap AR.keys then (fun b => (S k b ∧ ¬ handed T b) ∨ backTo ps as T' k b) else S k
def afterR {α : Type} (f g : Nat → α) (RK : List Nat) (k : Nat) : α := if k ∈ RK then g k else f k

theorem callBack {ps : List PM} {rs : List RM} {V : Nat → Value} {T T' : Nat → Set} {X' : Nat → PV} {rvs : List Value} {rps : List PV} {U : Nat → Set} {as : List AR} {res : List (Nat × D)} {valR : Nat → Value} {locR : Nat → Nat} {SR : Nat → Set} {pvR : Nat → PV}
    (h : RelX C Γ σ val loc S F tmps w)
    (hE : ∀ (k : Nat) (m : Nat) (pm : PM) (a : AR), (flatP ps 0)[k]? = some (m, pm) → as[k]? = some a → Ent C w F Γ σ val loc S pm (V m) a (T m))
    (hTs : ∀ m b', T m b' → ∃ (k : Nat) (pm : PM) (a : AR), (flatP ps 0)[k]? = some (m, pm) ∧ as[k]? = some a ∧ ∃ j ∈ a.keys, S j b')
    (hal : as.length = (flatP ps 0).length) (hkn : (as.flatMap AR.keys).Nodup) (hnd : ((flatP ps 0).map (·.1)).Nodup)
    (co : COut C.P w w' F2 ps rs V T X' T' rvs rps U) (gr : Grow w w' F F2 T T' U)
    (hrk : ∀ k ∈ res.map (·.1), k ∉ as.flatMap AR.keys) (hr62 : ∀ k ∈ res.map (·.1), k % 64 ≠ 62)
    (hn : tmps'.size = C.nt) (htm : ∀ i, afterR val valR (res.map (·.1)) (tk i) = tmps'.getD i undef)
    (hSU : ∀ k b, k ∈ res.map (·.1) → SR k b → ∃ j, U j b) (hSi : ∀ k k' b, k ∈ res.map (·.1) → k' ∈ res.map (·.1) → SR k b → SR k' b → k = k')
    (hRok : ∀ (Γ' : Nat → D) (σ' : Nat → PV) (val' : Nat → Value) (loc' : Nat → Nat) (S' : Nat → Set), (∀ k ∈ res.map (·.1), val' k = valR k ∧ loc' k = locR k ∧ S' k = SR k ∧ σ' k = pvR k) → ∀ k D, look res k = some D → Ok C.P w' F2 Γ' σ' val' loc' S' k D)
    (hσR : ∀ k ∈ res.map (·.1), σ' k = pvR k)
    (hσk : ∀ (i m : Nat) (pm : PM) (a : AR) (k : Nat) (D : D) (r : Option (Pth × PX)), (flatP ps 0)[i]? = some (m, pm) → as[i]? = some a → a.root = some (k, D, r) → σ' k = newTree σ k r (X' m))
    (hσo : ∀ k, k ∉ res.map (·.1) → k ∉ as.flatMap AR.keys → σ' k = σ k) :
    RelX C (ap Γ (res ++ (rootUpd as ++ (as.flatMap (·.own)).map fun k => (k, .none))) (res.map (·.1)) (softs as)) σ' (afterR val valR (res.map (·.1))) (afterR loc locR (res.map (·.1))) (afterS S (res.map (·.1)) SR ps as T T') F2 tmps' w' := by
  generalize hRK : res.map (·.1) = RK at *
  have entOf : ∀ {a : AR}, a ∈ as → ∃ (i m : Nat) (pm : PM), (flatP ps 0)[i]? = some (m, pm) ∧ as[i]? = some a := by
    intro a ha
    obtain ⟨i, hi⟩ := List.getElem?_of_mem ha
    have hlt : i < (flatP ps 0).length := by rw [← hal]; exact (List.getElem?_eq_some_iff.1 hi).1
    exact ⟨i, _, _, List.getElem?_eq_getElem hlt, hi⟩
  have hk1 : ∀ {i m : Nat} {pm : PM} {a : AR} {k b : Nat}, (flatP ps 0)[i]? = some (m, pm) → as[i]? = some a → k ∈ a.keys → handed T b → S k b → T m b := by
    intro i m pm a k b e1 e2 hk ⟨m', hT⟩ hs
    obtain ⟨i', pm', a', e1', e2', j, hj, hs'⟩ := hTs m' b hT
    have := h.dj _ _ _ hs hs'
    subst this
    have := flatMap_index hkn e2 e2' hk hj
    subst this
    rw [e1] at e1'
    simp only [Option.some.injEq, Prod.mk.injEq] at e1'
    rw [e1'.1]; exact hT
  have hk2 : ∀ {b : Nat}, handed T b → ∃ j ∈ as.flatMap AR.keys, S j b := by
    intro b ⟨m, hT⟩
    obtain ⟨i, pm, a, e1, e2, j, hj, hs⟩ := hTs m b hT
    exact ⟨j, List.mem_flatMap.2 ⟨a, List.mem_of_getElem? e2, hj⟩, hs⟩
  have hhF : ∀ {b : Nat}, handed T b → F b → False := fun hh hf => let ⟨j, _, hs⟩ := hk2 hh; h.sF _ _ hs hf
  have hhz : ∀ {b : Nat}, handed T b → b < w.heap.size := fun hh => let ⟨j, _, hs⟩ := hk2 hh; h.sz _ _ hs
  -- the keys that are named
  have lkeys : ∀ k, k ∈ as.flatMap AR.keys → k ∉ RK → ∃ x, look (res ++ (rootUpd as ++ (as.flatMap (·.own)).map fun k => (k, D.none))) k = some x := by
    intro k hk hnr
    cases hl : look (res ++ (rootUpd as ++ (as.flatMap (·.own)).map fun k => (k, D.none))) k with
    | some x => exact ⟨x, rfl⟩
    | none =>
      rw [look_none] at hl
      exfalso
      apply hl
      obtain ⟨a, ha, hka⟩ := List.mem_flatMap.1 hk
      simp only [List.map_append, List.mem_append, List.map_map]
      unfold AR.keys at hka
      rcases List.mem_append.1 hka with hka | hka
      · cases hr : a.root with
        | none => rw [hr] at hka; cases hka
        | some t =>
          obtain ⟨o, D0, r⟩ := t
          rw [hr] at hka
          simp only [List.mem_singleton] at hka
          subst hka
          exact .inr (.inl (List.mem_map.2 ⟨(k, D0), rootUpd_mem.2 ⟨a, ha, r, hr⟩, rfl⟩))
      · exact .inr (.inr (List.mem_map.2 ⟨k, List.mem_flatMap.2 ⟨a, ha, hka⟩, rfl⟩))
  have lcase : ∀ k x, look (res ++ (rootUpd as ++ (as.flatMap (·.own)).map fun k => (k, D.none))) k = some x → (k ∈ RK ∧ look res k = some x) ∨ (k ∉ RK ∧ k ∈ as.flatMap AR.keys ∧ ((∃ (i m : Nat) (pm : PM) (a : AR) (r : Option (Pth × PX)), (flatP ps 0)[i]? = some (m, pm) ∧ as[i]? = some a ∧ a.root = some (k, x, r)) ∨ x = .none)) := by
    intro k x hx
    rw [look_append] at hx
    cases hl : look res k with
    | some y =>
      rw [hl] at hx
      refine .inl ⟨?_, hx⟩
      rw [← hRK]
      exact List.mem_map.2 ⟨(k, y), look_some hl, rfl⟩
    | none =>
      rw [hl] at hx
      simp only at hx
      have hnr : k ∉ RK := by rw [← hRK]; exact look_none.1 hl
      rw [look_append] at hx
      cases hl2 : look (rootUpd as) k with
      | some y =>
        rw [hl2] at hx
        simp only [Option.some.injEq] at hx
        subst hx
        obtain ⟨a, ha, r, hr⟩ := rootUpd_mem.1 (look_some hl2)
        obtain ⟨i, m, pm, e1, e2⟩ := entOf ha
        exact .inr ⟨hnr, List.mem_flatMap.2 ⟨a, ha, root_keys hr⟩, .inl ⟨i, m, pm, a, r, e1, e2, hr⟩⟩
      | none =>
        rw [hl2] at hx
        simp only at hx
        obtain ⟨k', hk', e⟩ := List.mem_map.1 (look_some hx)
        simp only [Prod.mk.injEq] at e
        obtain ⟨rfl, rfl⟩ := e
        obtain ⟨a, ha, hka⟩ := List.mem_flatMap.1 hk'
        exact .inr ⟨hnr, List.mem_flatMap.2 ⟨a, ha, own_keys hka⟩, .inr rfl⟩
  have hS2 : ∀ k x b, look (res ++ (rootUpd as ++ (as.flatMap (·.own)).map fun k => (k, D.none))) k = some x → afterS S RK SR ps as T T' k b → (∃ j, U j b ∧ k ∈ RK ∧ SR k b) ∨ (k ∉ RK ∧ k ∈ as.flatMap AR.keys ∧ ((S k b ∧ ¬ handed T b) ∨ backTo ps as T' k b)) := by
    intro k x b hx hb
    unfold afterS at hb
    rcases lcase k x hx with ⟨hk, _⟩ | ⟨hk, hk2', _⟩
    · rw [if_pos hk] at hb
      obtain ⟨j, hj⟩ := hSU k b hk hb
      exact .inl ⟨j, hj, hk, hb⟩
    · rw [if_neg hk, if_pos hk2'] at hb
      exact .inr ⟨hk, hk2', hb⟩
  have han : ∀ {b : Nat}, (handed T b ∨ w.heap.size ≤ b) → (∃ k0 x0, look (res ++ (rootUpd as ++ (as.flatMap (·.own)).map fun k => (k, D.none))) k0 = some x0 ∧ S k0 b) ∨ w.heap.size ≤ b := by
    intro b hh
    refine hh.imp_left fun hh => ?_
    obtain ⟨j, hj, hsj⟩ := hk2 hh
    obtain ⟨x, hx⟩ := lkeys j hj (fun h => hrk j h hj)
    exact ⟨j, x, hx, hsj⟩
  refine h.appG _ RK (softs as) (fun k hk => ?_) (fun k x hx hm => ?_) (fun o x hx hm => ?_) (fun k hk => ?_) hn htm gr.fF (fun b hb => (gr.fN b hb).imp_right fun hh => han hh) gr.fL (fun b hb hs => ?_) co.ext.os co.ext.tape co.ext.output co.ext.size (fun k x b hx hs => ?_) (fun k x b hx hs => ?_) (fun k x k' x' b hx hx' hs hs' => ?_) (fun k x b hx hs hf => ?_) (fun k x hx => ?_)
  · have hnr : k ∉ RK := by
      rw [← hRK]
      refine look_none.1 ?_
      rw [look_append] at hk
      cases hl : look res k with
      | none => rfl
      | some y => rw [hl] at hk; cases hk
    have hnk : k ∉ as.flatMap AR.keys := fun hm => by
      obtain ⟨x, hx⟩ := lkeys k hm hnr
      rw [hk] at hx; cases hx
    exact ⟨hσo k hnr hnk, by simp [afterR, hnr], by simp [afterR, hnr], by simp [afterS, hnr, hnk]⟩
  · have hnr : k ∉ RK := fun hk => by rw [mem_iff.2 hk] at hm; cases hm
    exact ⟨by simp [afterR, hnr], by simp [afterR, hnr]⟩
  · obtain ⟨a, ha, hs⟩ := List.mem_filterMap.1 (mem_iff.1 hm)
    have hsoft : a.soft = true := by
      cases hq : a.soft with
      | true => rfl
      | false => simp [hq] at hs
    rw [if_pos hsoft] at hs
    obtain ⟨⟨o', D0, r0⟩, hr, e⟩ := Option.map_eq_some_iff.1 hs
    simp only at e
    subst e
    have hok : o' ∈ as.flatMap AR.keys := List.mem_flatMap.2 ⟨a, ha, root_keys hr⟩
    have hnr : o' ∉ RK := fun h => hrk o' h hok
    obtain ⟨i, m, pm, e1, e2⟩ := entOf ha
    obtain ⟨q1, q2, q3, q4, q5⟩ := (hE i m pm a e1 e2).root o' D0 r0 hr
    have hx' : x = D0 := by
      rcases lcase o' x hx with ⟨hk, _⟩ | ⟨_, _, ⟨i', m', pm', a', r', e1', e2', hr'⟩ | rfl⟩
      · exact absurd hk hnr
      · have := flatMap_index hkn e2 e2' (root_keys hr) (root_keys hr')
        subst this
        rw [e2] at e2'
        simp only [Option.some.injEq] at e2'
        subst e2'
        rw [hr] at hr'
        simp only [Option.some.injEq, Prod.mk.injEq] at hr'
        exact hr'.2.1.symm
      · exfalso
        have hlu : look (rootUpd as) o' ≠ none := fun hl => look_none.1 hl (List.mem_map.2 ⟨(o', D0), rootUpd_mem.2 ⟨a, ha, r0, hr⟩, rfl⟩)
        rw [look_append] at hx
        have hlr : look res o' = none := look_none.2 (by rw [hRK]; exact hnr)
        rw [hlr] at hx
        simp only at hx
        rw [look_append] at hx
        cases hl2 : look (rootUpd as) o' with
        | none => exact hlu hl2
        | some y =>
          rw [hl2] at hx
          simp only [Option.some.injEq] at hx
          subst hx
          obtain ⟨a', ha', r', hr'⟩ := rootUpd_mem.1 (look_some hl2)
          obtain ⟨i', m', pm', e1', e2'⟩ := entOf ha'
          have := ((hE i' m' pm' a' e1' e2').root o' _ r' hr').1
          cases this
    subst hx'
    refine ⟨(q3 hsoft).1, by simp [afterR, hnr], by simp [afterR, hnr], fun hbx hSo => ?_⟩
    have hnh : ¬ handed T (loc o') := fun hh => (q3 hsoft).2 hbx hSo (hk1 e1 e2 (root_keys hr) hh hSo)
    exact ⟨by unfold afterS; rw [if_neg hnr, if_pos hok]; exact .inl ⟨hSo, hnh⟩, co.ext.block _ (h.sz _ _ hSo) hnh⟩
  · have hnr : k ∉ RK := fun h => hr62 k h hk
    exact ⟨by simp [afterR, hnr], by simp [afterR, hnr]⟩
  · refine co.ext.block b hb fun hh => ?_
    obtain ⟨j, hj, hsj⟩ := hk2 hh
    obtain ⟨x, hx⟩ := lkeys j hj (fun h => hrk j h hj)
    exact hs j x hx hsj
  · have han : (handed T b ∨ w.heap.size ≤ b) → (∃ k0 x0, look (res ++ (rootUpd as ++ (as.flatMap (·.own)).map fun k => (k, D.none))) k0 = some x0 ∧ S k0 b) ∨ w.heap.size ≤ b := by
      intro hh
      refine hh.imp_left fun hh => ?_
      obtain ⟨j, hj, hsj⟩ := hk2 hh
      obtain ⟨x, hx⟩ := lkeys j hj (fun h => hrk j h hj)
      exact ⟨j, x, hx, hsj⟩
    rcases hS2 k x b hx hs with ⟨j, hj, _, _⟩ | ⟨_, _, hb | hb⟩
    · exact han (co.nU j b hj).1
    · exact .inl ⟨k, x, hx, hb.1⟩
    · obtain ⟨i, m, pm, a, D0, r, e1, e2, e3, hT'⟩ := hb
      exact han (co.nT m b hT').1
  · rcases hS2 k x b hx hs with ⟨j, hj, _, _⟩ | ⟨_, _, hb | hb⟩
    · exact (co.nU j b hj).2
    · exact Nat.lt_of_lt_of_le (h.sz _ _ hb.1) co.ext.size
    · obtain ⟨i, m, pm, a, D0, r, e1, e2, e3, hT'⟩ := hb
      exact (co.nT m b hT').2
  · have old : ∀ {k b : Nat}, S k b → ¬ handed T b → (handed T b ∨ w.heap.size ≤ b) → False := fun hs hn hh => hh.elim hn (fun hz => by have := h.sz _ _ hs; omega)
    rcases hS2 k x b hx hs with ⟨j, hj, hk, hsr⟩ | ⟨_, _, hb | ⟨i, m, pm, a, D0, r, e1, e2, e3, hT'⟩⟩ <;> rcases hS2 k' x' b hx' hs' with ⟨j', hj', hk', hsr'⟩ | ⟨_, _, hb' | ⟨i', m', pm', a', D0', r', e1', e2', e3', hT''⟩⟩
    · exact hSi k k' b hk hk' hsr hsr'
    · exact (old hb'.1 hb'.2 (co.nU j b hj).1).elim
    · exact (co.dUT j m' b hj hT'').elim
    · exact (old hb.1 hb.2 (co.nU j' b hj').1).elim
    · exact h.dj _ _ _ hb.1 hb'.1
    · exact (old hb.1 hb.2 (co.nT m' b hT'').1).elim
    · exact (co.dUT j' m b hj' hT').elim
    · exact (old hb'.1 hb'.2 (co.nT m b hT').1).elim
    · have := co.dT _ _ _ hT' hT''
      subst this
      have h1 := idx_at hnd e1
      have h2 := idx_at hnd e1'
      simp only at h1 h2
      rw [h1] at h2
      simp only [Option.some.injEq] at h2
      subst h2
      rw [e2] at e2'
      simp only [Option.some.injEq] at e2'
      subst e2'
      rw [e3] at e3'
      simp only [Option.some.injEq, Prod.mk.injEq] at e3'
      exact e3'.1
  · rcases hS2 k x b hx hs with ⟨j, hj, _, _⟩ | ⟨_, _, hb | hb⟩
    · exact gr.fU j b hj hf
    · rcases gr.fN b hf with hf | hf | hf
      · exact h.sF _ _ hb.1 hf
      · exact hb.2 hf
      · have := h.sz _ _ hb.1; omega
    · obtain ⟨i, m, pm, a, D0, r, e1, e2, e3, hT'⟩ := hb
      exact gr.fT m b hT' hf
  · rcases lcase k x hx with ⟨hk, hl⟩ | ⟨hnr, hkk, ⟨i, m, pm, a, r, e1, e2, hr⟩ | rfl⟩
    · exact hRok _ _ _ _ _ (fun k hk => ⟨by simp [afterR, hk], by simp [afterR, hk], by simp [afterS, hk], hσR k hk⟩) k x hl
    · obtain ⟨q1, q2, q3, q4, q5⟩ := (hE i m pm a e1 e2).root k x r hr
      have hin : ∀ b, handed T b → S k b → T m b := fun b => hk1 e1 e2 (root_keys hr)
      refine q5 (co.arg m pm (List.mem_of_getElem? e1)) gr.fF (fun b hb => co.ext.block b (h.fz b hb) (fun hh => hhF hh hb)) (fun b hb hn => co.ext.block b (h.sz _ _ hb) (fun hh => hn (hin b hh hb))) (fun b hb hb2 => ?_) (hσk i m pm a k x r e1 e2 hr) (by simp [afterR, hnr]) (by simp [afterR, hnr]) (fun b hb => ?_)
      · rcases (co.nT m b hb).1 with hh | hz
        · exact hin b hh hb2
        · have := h.sz _ _ hb2; omega
      · unfold afterS
        rw [if_neg hnr, if_pos hkk]
        rcases hb with hb | hb
        · exact .inl ⟨hb.1, fun hh => hb.2 (hin b hh hb.1)⟩
        · exact .inr ⟨i, m, pm, a, x, r, e1, e2, hr, hb⟩
    · trivial
end
end Go.Rsc
