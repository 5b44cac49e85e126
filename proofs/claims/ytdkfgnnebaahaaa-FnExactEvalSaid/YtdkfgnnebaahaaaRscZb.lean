/- What a slot takes of results. No conditions. -/
import Derived.Test.YtdkfgnnebaahaaaRscZa
namespace Go.Rsc
open Go.RowKit
set_option linter.unusedVariables false
set_option linter.unusedSimpArgs false

theorem ek_inj {d i j : Nat} (h : ek d i = ek d j) : i = j := by unfold ek at h; omega
theorem resKeys_look (d : Nat) : ∀ (rs : List RM) (n k : Nat) (x : D × PX), (k, x) ∈ resKeys d rs n → ∃ j rm, rs[j]? = some rm ∧ k = ek d (n + j) ∧ x = (match rm with
    | .v r => (.v r, .res (n + j))
    | .bx _ _ => (.none, .unit))
  | [], n, k, x, h => by simp [resKeys] at h
  | rm :: rs, n, k, x, h => by
    cases rm with
    | v r =>
      simp only [resKeys, List.mem_cons, Prod.mk.injEq] at h
      rcases h with ⟨rfl, rfl⟩ | h
      · exact ⟨0, .v r, rfl, rfl, rfl⟩
      · obtain ⟨j, rm, h1, h2, h3⟩ := resKeys_look d rs (n + 1) k x h
        exact ⟨j + 1, rm, by simpa using h1, by rw [h2]; congr 1; omega, by rw [h3]; cases rm <;> simp [Nat.add_assoc, Nat.add_comm 1 j]⟩
    | bx t r =>
      simp only [resKeys, List.mem_cons, Prod.mk.injEq] at h
      rcases h with ⟨rfl, rfl⟩ | h
      · exact ⟨0, .bx t r, rfl, rfl, rfl⟩
      · obtain ⟨j, rm, h1, h2, h3⟩ := resKeys_look d rs (n + 1) k x h
        exact ⟨j + 1, rm, by simpa using h1, by rw [h2]; congr 1; omega, by rw [h3]; cases rm <;> simp [Nat.add_assoc, Nat.add_comm 1 j]⟩

section
variable {P : Program} {w' : World} {F : Set} {C : Cx}

/-- The results, under their keys. -/
theorem results_ok {dst : Option Nat} {rs : List RM} {rvs : List Value} {rps : List PV} {U : Nat → Set} (hdt : ∀ d, dst = some d → d < C.nt) (hlen : rs.length < 48) (hl1 : rvs.length = rs.length) (hl2 : rps.length = rs.length)
    (hres : ∀ (j : Nat) rm, rs[j]? = some rm → RRes P w' F rm (rvs.getD j undef) (rps.getD j .unit) (U j)) (hU : ∀ j j' b, U j b → U j' b → j = j') (σ : Nat → PV) (more : List PV) :
    ∃ (valR : Nat → Value) (locR : Nat → Nat) (SR : Nat → Set) (pvR : Nat → PV), (∀ k ∈ (cResults dst rs).map (·.1), k % 64 < 60) ∧ (∀ d, dst = some d → tk d ∈ (cResults dst rs).map (·.1) ∧ valR (tk d) = retV rvs) ∧ (∀ i, tk i ∈ (cResults dst rs).map (·.1) → dst = some i) ∧
      (∀ k b, k ∈ (cResults dst rs).map (·.1) → SR k b → ∃ j, U j b) ∧ (∀ k k' b, k ∈ (cResults dst rs).map (·.1) → k' ∈ (cResults dst rs).map (·.1) → SR k b → SR k' b → k = k') ∧
      (∀ (Γ' : Nat → D) (σ' : Nat → PV) (val' : Nat → Value) (loc' : Nat → Nat) (S' : Nat → Set), (∀ k ∈ (cResults dst rs).map (·.1), val' k = valR k ∧ loc' k = locR k ∧ S' k = SR k ∧ σ' k = pvR k) → ∀ k D, look ((cResults dst rs).map fun x => (x.1, x.2.1)) k = some D → Ok P w' F Γ' σ' val' loc' S' k D) ∧
      (∀ k px, lookS ((cResults dst rs).map fun x => (x.1, x.2.2)) k = some px → px.eval σ (rps ++ more) = pvR k) := by
  cases dst with
  | none => exact ⟨fun _ => undef, fun _ => 0, fun _ => Set.none, fun _ => .unit, by simp [cResults], fun d e => (by cases e), by simp [cResults], by simp [cResults], by simp [cResults], fun _ _ _ _ _ _ k D h => by simp [cResults, look_nil] at h, fun k px h => by simp [cResults, lookS_nil] at h⟩
  | some d =>
    have htk : tk d % 64 < 60 := by unfold tk; omega
    have hbk : bk d % 64 < 60 := by unfold bk; omega
    match rs, hlen, hl1, hl2, hres with
    | [], _, hl1, hl2, hres =>
      have : rvs = [] := List.eq_nil_of_length_eq_zero hl1
      subst this
      refine ⟨fun _ => .tuple #[], fun _ => 0, fun _ => Set.none, fun _ => .unit, by simp [cResults, htk], fun d' e => by simp only [Option.some.injEq] at e; subst e; exact ⟨by simp [cResults], rfl⟩, fun i hi => ?_, fun k b _ hb => hb.elim, fun k k' b _ _ hb => hb.elim, fun _ _ _ _ _ _ k D h => ?_, fun k px h => ?_⟩
      · simp only [cResults, List.map_cons, List.map_nil, List.mem_singleton] at hi; rw [tk_inj hi]
      · simp only [cResults, List.map_cons, List.map_nil, look_cons, look_nil] at h
        split at h
        · simp only [Option.some.injEq] at h; subst h; trivial
        · cases h
      · simp only [cResults, List.map_cons, List.map_nil, lookS_cons, lookS_nil] at h
        split at h
        · simp only [Option.some.injEq] at h; subst h; rfl
        · cases h
    | [.v r0], _, hl1, hl2, hres =>
      match rvs, hl1, rps, hl2 with
      | [v0], _, [p0], _ =>
        have h0 := hres 0 (.v r0) rfl
        refine ⟨fun _ => v0, fun _ => 0, fun _ => U 0, fun _ => p0, by simp [cResults, htk], fun d' e => by simp only [Option.some.injEq] at e; subst e; exact ⟨by simp [cResults], rfl⟩, fun i hi => ?_, fun k b _ hb => ⟨0, hb⟩, fun k k' b hk hk' _ _ => ?_, fun Γ' σ' val' loc' S' hag k D h => ?_, fun k px h => ?_⟩
        · simp only [cResults, List.map_cons, List.map_nil, List.mem_singleton] at hi; rw [tk_inj hi]
        · simp only [cResults, List.map_cons, List.map_nil, List.mem_singleton] at hk hk'; rw [hk, hk']
        · simp only [cResults, List.map_cons, List.map_nil, look_cons, look_nil] at h
          split at h
          · rename_i e
            subst e
            simp only [Option.some.injEq] at h; subst h
            obtain ⟨q1, q2, q3, q4⟩ := hag (tk d) (by simp [cResults])
            obtain ⟨cs, g1, g2⟩ := h0
            exact ⟨cs, by rw [q1]; exact g1, by rw [q4, q3]; exact g2⟩
          · cases h
        · simp only [cResults, List.map_cons, List.map_nil, lookS_cons, lookS_nil] at h
          split at h
          · simp only [Option.some.injEq] at h; subst h; rfl
          · cases h
    | [.bx t0 r0], _, hl1, hl2, hres =>
      match rvs, hl1, rps, hl2 with
      | [v0], _, [p0], _ =>
        obtain ⟨b0, arr, T0, g1, g2, g3, g4, g5⟩ := hres 0 (.bx t0 r0) rfl
        have hne : bk d ≠ tk d := bk_ne_tk d d
        refine ⟨fun _ => v0, fun _ => b0, fun k => if k = bk d then U 0 else Set.none, fun k => if k = bk d then p0 else .unit, by simp [cResults, htk, hbk], fun d' e => by simp only [Option.some.injEq] at e; subst e; exact ⟨by simp [cResults], rfl⟩, fun i hi => ?_, fun k b _ hb => ?_, fun k k' b hk hk' hb hb' => ?_, fun Γ' σ' val' loc' S' hag k D h => ?_, fun k px h => ?_⟩
        · simp only [cResults, List.map_cons, List.map_nil, List.mem_cons, List.not_mem_nil, or_false] at hi
          rcases hi with hi | hi
          · rw [tk_inj hi]
          · exact absurd hi.symm (bk_ne_tk d i)
        · by_cases e : k = bk d
          · simp only [e, if_true] at hb; exact ⟨0, hb⟩
          · simp only [e, if_false] at hb; exact hb.elim
        · by_cases e : k = bk d <;> by_cases e' : k' = bk d
          · rw [e, e']
          · simp only [e', if_false] at hb'; exact hb'.elim
          · simp only [e, if_false] at hb; exact hb.elim
          · simp only [e, if_false] at hb; exact hb.elim
        · simp only [cResults, List.map_cons, List.map_nil, look_cons, look_nil] at h
          obtain ⟨q1, q2, q3, q4⟩ := hag (tk d) (by simp [cResults])
          obtain ⟨u1, u2, u3, u4⟩ := hag (bk d) (by simp [cResults])
          split at h
          · rename_i e
            subst e
            simp only [Option.some.injEq] at h; subst h
            exact ⟨by rw [q1, u2]; exact g1, by rw [q4]; simp [Ne.symm hne]⟩
          · split at h
            · rename_i e
              subst e
              simp only [Option.some.injEq] at h; subst h
              simp only [if_true] at u3 u4
              exact ⟨arr, T0, by rw [u2]; exact g2, by rw [u2, u3]; exact g3, fun b hb => ⟨by rw [u3]; exact (g4 b hb).1, by rw [u2]; exact (g4 b hb).2⟩, by rw [u4]; exact g5⟩
            · cases h
        · simp only [cResults, List.map_cons, List.map_nil, lookS_cons, lookS_nil] at h
          split at h
          · rename_i e
            subst e
            simp only [Option.some.injEq] at h; subst h
            simp [Ne.symm hne, PX.eval]
          · split at h
            · rename_i e
              subst e
              simp only [Option.some.injEq] at h; subst h
              simp [PX.eval]
            · cases h
    | r1 :: r2 :: rs', hlen, hl1, hl2, hres =>
      generalize hrs : r1 :: r2 :: rs' = rs at hlen hl1 hl2 hres
      have hc : cResults (some d) rs = (tk d, .tup ((List.range rs.length).map fun j => ek d j), .unit) :: resKeys d rs 0 := by rw [← hrs]; cases r1 <;> rfl
      have hret : retV rvs = .tuple rvs.toArray := by
        match rvs, hl1 with
        | [], h => rw [← hrs] at h; cases h
        | [_], h => rw [← hrs] at h; simp at h
        | _ :: _ :: _, _ => rfl
      rw [hc]
      have hek : ∀ j, ek d j ≠ tk d := fun j e => by unfold ek tk at e; omega
      have hmem : ∀ k, k ∈ ((tk d, (D.tup ((List.range rs.length).map fun j => ek d j)), PX.unit) :: resKeys d rs 0).map (·.1) → k = tk d ∨ ∃ j rm, rs[j]? = some rm ∧ k = ek d j := by
        intro k hk
        rcases List.mem_cons.1 hk with rfl | hk
        · exact .inl rfl
        · obtain ⟨x, hx, rfl⟩ := List.mem_map.1 hk
          obtain ⟨j, rm, h1, h2, _⟩ := resKeys_look d rs 0 x.1 x.2 hx
          exact .inr ⟨j, rm, h1, by rw [h2, Nat.zero_add]⟩
      let jOf : Nat → Nat := fun k => k - (64 * d + 2)
      have hj : ∀ j, jOf (ek d j) = j := fun j => by simp only [jOf, ek]; omega
      refine ⟨fun k => if k = tk d then .tuple rvs.toArray else rvs.getD (jOf k) undef, fun _ => 0, fun k => if k = tk d then Set.none else match rs[jOf k]? with
        | some (.v _) => U (jOf k)
        | _ => Set.none, fun k => if k = tk d then .unit else match rs[jOf k]? with
        | some (.v _) => rps.getD (jOf k) .unit
        | _ => .unit, ?_, ?_, ?_, ?_, ?_, ?_, ?_⟩
      · intro k hk
        rcases hmem k hk with rfl | ⟨j, rm, h1, rfl⟩
        · exact htk
        · have := (List.getElem?_eq_some_iff.1 h1).1
          unfold ek; omega
      · intro d' e
        simp only [Option.some.injEq] at e
        subst e
        exact ⟨by simp, by simp [hret]⟩
      · intro i hi
        rcases hmem _ hi with e | ⟨j, rm, h1, e⟩
        · rw [tk_inj e]
        · have := (List.getElem?_eq_some_iff.1 h1).1
          unfold ek tk at e; omega
      · intro k b _ hb
        by_cases e : k = tk d
        · simp only [e, if_true] at hb; exact hb.elim
        · simp only [e, if_false] at hb
          cases hr : rs[jOf k]? with
          | none => rw [hr] at hb; exact hb.elim
          | some rm =>
            rw [hr] at hb
            cases rm with
            | v r => exact ⟨_, hb⟩
            | bx t r => exact hb.elim
      · intro k k' b hk hk' hb hb'
        have key : ∀ k, k ∈ ((tk d, (D.tup ((List.range rs.length).map fun j => ek d j)), PX.unit) :: resKeys d rs 0).map (·.1) → (if k = tk d then Set.none else match rs[jOf k]? with
            | some (.v _) => U (jOf k)
            | _ => Set.none) b → ∃ j, k = ek d j ∧ U j b := by
          intro k hk hb
          rcases hmem k hk with rfl | ⟨j, rm, h1, rfl⟩
          · simp only [if_true] at hb; exact hb.elim
          · rw [if_neg (hek j), hj, h1] at hb
            cases rm with
            | v r => exact ⟨j, rfl, hb⟩
            | bx t r => exact hb.elim
        obtain ⟨j, rfl, h1⟩ := key k hk hb
        obtain ⟨j', rfl, h2⟩ := key k' hk' hb'
        rw [hU j j' b h1 h2]
      · intro Γ' σ' val' loc' S' hag k D h
        have hm := look_some h
        obtain ⟨x, hx, e⟩ := List.mem_map.1 hm
        simp only [Prod.mk.injEq] at e
        obtain ⟨rfl, rfl⟩ := e
        have hag' := hag x.1 (List.mem_map.2 ⟨x, hx, rfl⟩)
        rcases List.mem_cons.1 hx with rfl | hx
        · obtain ⟨q1, q2, q3, q4⟩ := hag'
          simp only [if_true] at q1 q4
          refine ⟨?_, q4⟩
          rw [q1]
          congr 2
          apply List.ext_getElem
          · simp [hl1]
          · intro j j1 j2
            simp only [List.getElem_map, List.getElem_range]
            have hjl : j < rs.length := by rw [← hl1]; exact j1
            have hin : ek d j ∈ ((tk d, (Rsc.D.tup ((List.range rs.length).map fun j => ek d j)), PX.unit) :: resKeys d rs 0).map (·.1) := by
              have : ∀ (l : List RM) (n j : Nat), j < l.length → ek d (n + j) ∈ (resKeys d l n).map (·.1) := by
                intro l
                induction l with
                | nil => intro n j h; simp at h
                | cons rm l ih =>
                  intro n j h
                  cases j with
                  | zero => cases rm <;> simp [resKeys]
                  | succ j =>
                    have := ih (n + 1) j (by simpa using h)
                    rw [show n + 1 + j = n + (j + 1) by omega] at this
                    cases rm <;> simp only [resKeys, List.map_cons, List.mem_cons] <;> exact .inr this
              have := this rs 0 j hjl
              rw [Nat.zero_add] at this
              exact List.mem_cons_of_mem _ this
            have := (hag (ek d j) hin).1
            rw [this]
            simp only [if_neg (hek j), hj]
            simp [j1]
        · obtain ⟨j, rm, h1, h2, h3⟩ := resKeys_look d rs 0 x.1 x.2 hx
          rw [Nat.zero_add] at h2 h3
          cases rm with
          | bx t r => rw [h3]; trivial
          | v r =>
            rw [h3]
            obtain ⟨q1, q2, q3, q4⟩ := hag'
            rw [h2] at q1 q3 q4
            simp only [if_neg (hek j), hj, h1] at q1 q3 q4
            obtain ⟨cs, g1, g2⟩ := hres j _ h1
            rw [h2]
            exact ⟨cs, by rw [q1]; exact g1, by rw [q4, q3]; exact g2⟩
      · intro k px h
        have : ∀ {A : List (Nat × PX)} {k : Nat} {x : PX}, lookS A k = some x → (k, x) ∈ A := by
          intro A k x h
          induction A with
          | nil => simp [lookS_nil] at h
          | cons a A ih =>
            obtain ⟨j, d⟩ := a
            rw [lookS_cons] at h
            by_cases hk : k = j
            · subst hk; simp only [if_true, Option.some.injEq] at h; subst h; simp
            · rw [if_neg hk] at h; simp [ih h]
        have hm := this h
        obtain ⟨x, hx, e⟩ := List.mem_map.1 hm
        simp only [Prod.mk.injEq] at e
        obtain ⟨rfl, rfl⟩ := e
        rcases List.mem_cons.1 hx with rfl | hx
        · simp [PX.eval]
        · obtain ⟨j, rm, h1, h2, h3⟩ := resKeys_look d rs 0 x.1 x.2 hx
          rw [Nat.zero_add] at h2 h3
          have hjl := (List.getElem?_eq_some_iff.1 h1).1
          rw [h2]
          simp only [if_neg (hek j), hj, h1]
          cases rm with
          | bx t r => rw [h3]; rfl
          | v r =>
            rw [h3]
            simp only [PX.eval]
            rw [List.getD_eq_getElem?_getD, List.getD_eq_getElem?_getD, List.getElem?_append_left (by rw [hl2]; exact hjl)]
end
end Go.Rsc
