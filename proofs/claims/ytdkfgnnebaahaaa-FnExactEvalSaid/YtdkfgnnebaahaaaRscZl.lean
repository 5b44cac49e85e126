/- Functions: what compiles keeps its contract; a table of functions. No conditions. -/
import Derived.Test.YtdkfgnnebaahaaaRscZk
namespace Go.Rsc
open Go.RowKit
set_option linter.unusedVariables false
set_option linter.unusedSimpArgs false

def outD : PM → D
  | .ref t _ d' => .box t d'
  | .mut d => .v d
  | _ => .none
theorem outCaps_eq : ∀ (cs : List CM) (n : Nat), outCaps cs n = ((flatC cs n).filter fun q => backM q.2).map fun q => (pk q.1, outD q.2)
  | [], n => rfl
  | .rp d :: cs, n => by
    simp only [outCaps, flatC, List.filter_cons, backM, Bool.false_eq_true, if_false]
    exact outCaps_eq cs (n + 1)
  | .ref t d d' :: cs, n => by
    simp only [outCaps, flatC, List.filter_cons, backM, if_true, List.map_cons]
    rw [outCaps_eq cs (n + 1)]
    rfl
theorem outKeys_eq : ∀ (ps : List PM) (i : Nat), outKeys ps i = ((flatP ps i).filter fun q => backM q.2).map fun q => (pk q.1, outD q.2)
  | [], i => rfl
  | .ro d :: ps, i | .rp d :: ps, i | .mv d :: ps, i => by
    simp only [outKeys, flatP, List.filter_cons, backM, Bool.false_eq_true, if_false]
    exact outKeys_eq ps (i + 1)
  | .ref t d d' :: ps, i | .mut d :: ps, i => by
    simp only [outKeys, flatP, List.filter_cons, backM, if_true, List.map_cons]
    rw [outKeys_eq ps (i + 1)]
    rfl
  | .clo f cs :: ps, i => by
    simp only [outKeys, flatP, List.filter_append, List.map_append]
    rw [outKeys_eq ps (i + 1), outCaps_eq]

theorem coeAll_spec : ∀ {ds rs : List RM}, coeAll ds rs = true → ds.length = rs.length ∧ ∀ (j : Nat) a b, ds[j]? = some a → rs[j]? = some b → coeR a b = true
  | [], [], _ => ⟨rfl, fun j a b h => by simp at h⟩
  | [], _ :: _, h => by cases h
  | _ :: _, [], h => by cases h
  | a :: as, b :: bs, h => by
    simp only [coeAll, Bool.and_eq_true] at h
    obtain ⟨h1, h2⟩ := coeAll_spec h.2
    refine ⟨by simp [h1], fun j x y hx hy => ?_⟩
    cases j with
    | zero => simp at hx hy; subst hx; subst hy; exact h.1
    | succ j => exact h2 j x y (by simpa using hx) (by simpa using hy)
def rmD : RM → D
  | .v d => .v d
  | .bx t d => .box t d
theorem keptR_spec {Γ : Nat → D} : ∀ {ds : List RM} {i : Nat}, keptR Γ ds i = true → ∀ (j : Nat) rm, ds[j]? = some rm → Γ (vk (i + j)) = rmD rm
  | [], i, _, j, rm, h => by simp at h
  | a :: ds, i, h, j, rm, hj => by
    have h0 : Γ (vk i) = rmD a ∧ keptR Γ ds (i + 1) = true := by
      cases a <;> simpa [keptR, rmD, Bool.and_eq_true, beq_iff_eq] using h
    cases j with
    | zero => simp at hj; subst hj; exact h0.1
    | succ j =>
      have := keptR_spec h0.2 j rm (by simpa using hj)
      rwa [show i + 1 + j = i + (j + 1) by omega] at this

theorem RRes.coe {P : Program} {w : World} {F : Set} {a b : RM} {v : Value} {p : PV} {T : Set} (h : RRes P w F a v p T) (hc : coeR a b = true) : RRes P w F b v p T := by
  cases a with
  | v d => cases b with
    | v d' =>
      obtain ⟨cs, h1, h2⟩ := h
      exact ⟨cs, h1.coe hc, h2.coe hc⟩
    | bx t d' => cases hc
  | bx t d => cases b with
    | v d' => cases hc
    | bx t' d' =>
      simp only [coeR, Bool.and_eq_true] at hc
      have e := beq_iff.1 hc.1
      subst e
      obtain ⟨b, arr, T0, h1, h2, h3, h4, h5⟩ := h
      exact ⟨b, arr, T0, h1, h2, h3, h4, h5.coe hc.2⟩

theorem getD_range {α : Type} (n j : Nat) (f : Nat → α) (z : α) (h : j < n) : ((List.range n).map f).getD j z = f j := by simp [List.getD_eq_getElem?_getD, h]

section
variable {P : Program} {sg : FuncId → Option Sig} {I : Interp} {f : FuncId} {d : FD} {s : Sig} {args os : List PV}

theorem compF_ok (hm : P.follows .mixedOrders = true) (hI : Good P sg I) (hc : compF P sg f = some d) (hs : sg f = some s) {n : Nat} (hr : d.run I n args = some os) : Ctr P s (f % 4096) args os := by
  intro w F V X T cin hargs
  unfold compF at hc
  rw [hs] at hc
  split at hc
  · rename_i s0 fn es hfn
    simp only [Option.some.injEq] at es
    subst es
    split at hc
    · cases hc
    split at hc
    · cases hc
    · rename_i pc0 rk0 ds0 ms0 Γ hl
      simp only at hc
      split at hc
      · rename_i hcond
        simp only [Bool.and_eq_true, List.all_eq_true] at hcond
        obtain ⟨⟨⟨⟨c1, c2⟩, c3⟩, c4⟩, c5⟩ := hcond
        simp only [Option.some.injEq] at hc
        subst hc
        unfold leave at hl
        split at hl
        · cases hl
        · rename_i c hbody
          split at hl
          · cases hl
          · rename_i pc q hcomp
            split at hl
            · cases hl
            · rename_i hex
              split at hl
              · cases hl
              · rename_i G hG
                simp only at hl
                split at hl
                · cases hl
                · rename_i hwk
                  simp only [Bool.or_eq_true, Bool.not_eq_true', not_or, Bool.not_eq_false] at hwk
                  obtain ⟨⟨hwk, hw3⟩, hw4⟩ := hwk
                  split at hl
                  · rename_i ds ms htr
                    simp only [Option.some.injEq, Prod.mk.injEq] at hl
                    obtain ⟨rfl, rfl, rfl, rfl, rfl⟩ := hl
                    have hlen : s.ps.length ≤ fn.ntmps := Nat.le_of_ble_eq_true c3
                    have hrel := entry_ok (nt := fn.ntmps) cin c4 hlen
                    unfold FD.run at hr
                    simp only at hr
                    obtain ⟨⟨e, σ⟩, hr1, hr2⟩ := Option.bind_eq_some_iff.1 hr
                    rw [hargs] at hr1
                    refine calls_of_wp hfn hbody ?_
                    have hsz : ((List.range s.ps.length).map V).toArray.size = s.ps.length := by simp
                    rw [hsz]
                    refine comp_ok (C := cxOf cin fn.ntmps) hm hI n hcomp hr1 hrel fun a' w' hp hd => ?_
                    -- how it ends
                    have hend : ∃ σ1 : Nat → PV, Rel (cxOf cin fn.ntmps) (gf G) σ a'.tmps w' ∧ some (cut ((List.range ds.length).map vk ++ (outKeys s.ps 0).map (·.1)) (preRun ms (fill (carried (restrict (resTmps fn) G)) (cut (carried (restrict (resTmps fn) G)) σ)))) = some os ∧ (toExit e = .normal ∨ toExit e = .ret) := by
                      obtain ⟨H, h1, h2⟩ := hp
                      cases e with
                      | x id => cases hr2
                      | n =>
                        obtain ⟨B, h3, h4⟩ := wkO_ok hwk.1 h1 h2
                        simp only [Option.some.injEq] at h3
                        subst h3
                        exact ⟨σ, h4, hr2, .inl rfl⟩
                      | r =>
                        obtain ⟨B, h3, h4⟩ := wkO_ok hwk.2 h1 h2
                        simp only [Option.some.injEq] at h3
                        subst h3
                        exact ⟨σ, h4, hr2, .inr rfl⟩
                    obtain ⟨_, hrel2, hos, hexit⟩ := hend
                    have hrel3 := (hrel2.wk hw3).fill hw4
                    revert hrel3 hos
                    generalize fill (carried (restrict (resTmps fn) G)) (cut (carried (restrict (resTmps fn) G)) σ) = σ
                    intro hos hrel3
                    obtain ⟨val, loc, S, Ff, h⟩ := hrel3
                    obtain ⟨val', loc', S', Ff, h', g1, g2, g3⟩ := takeRes_ok fn.results.toList s.rs 0 h htr
                    obtain ⟨q1, q2⟩ := coeAll_spec c1
                    have hvs : ∃ vs : List Value, vs.length = fn.results.size ∧ ∀ (j : Nat) r rm, fn.results.toList[j]? = some r → ds[j]? = some rm → (resV r a'.tmps).run P w' = .ok (vs.getD j undef) w' ∧ ∀ d, (rm = .v d → val' (vk j) = vs.getD j undef) ∧ ∀ t, rm = .bx t d → vs.getD j undef = .pointer (some ⟨loc' (vk j), 0, none⟩) := by
                      have : ∀ j, ∃ v, ∀ r rm, fn.results.toList[j]? = some r → ds[j]? = some rm → (resV r a'.tmps).run P w' = .ok v w' ∧ ∀ d, (rm = .v d → val' (vk j) = v) ∧ ∀ t, rm = .bx t d → v = .pointer (some ⟨loc' (vk j), 0, none⟩) := by
                        intro j
                        cases hj : fn.results.toList[j]? with
                        | none => exact ⟨undef, fun r rm hr => by cases hr⟩
                        | some r =>
                          cases hdj : ds[j]? with
                          | none => exact ⟨undef, fun r rm _ hr => by cases hr⟩
                          | some rm =>
                            obtain ⟨v, e1, e2⟩ := g3 j r rm hj hdj
                            rw [Nat.zero_add] at e2
                            exact ⟨v, fun r' rm' h1 h2 => by cases h1; cases h2; exact ⟨e1, e2⟩⟩
                      refine ⟨(List.range fn.results.size).map fun j => Classical.choose (this j), by simp, fun j r rm hj hdj => ?_⟩
                      have hlt : j < fn.results.size := by have := (List.getElem?_eq_some_iff.1 hj).1; simpa using this
                      rw [getD_range _ _ _ _ hlt]
                      exact Classical.choose_spec (this j) r rm hj hdj
                    obtain ⟨vs, hvl, hvs⟩ := hvs
                    have hdl : ds.length = fn.results.size := by rw [g1]; simp
                    have hres := results_run (P := P) (w := w') (fn := fn) (tmps := a'.tmps) hvl fun j r hj => by
                      have hlt : j < ds.length := by rw [hdl]; have := (List.getElem?_eq_some_iff.1 hj).1; simpa using this
                      exact (hvs j r _ hj (List.getElem?_eq_getElem hlt)).1
                    have hdf : a'.defers = [] := hd
                    have hR : ∃ F' X' T' rvs rps U, Ending.returned (retV vs) = .returned (retV rvs) ∧ Grow w w' F F' T T' U ∧ COut P w w' F' s.ps s.rs V T X' T' rvs rps U ∧ os = rps ++ (outNs s.ps).map X' := by
                      have hE := c4
                      unfold entryOk at hE
                      simp only [Bool.and_eq_true] at hE
                      have hnd := distinct_iff _ hE.1.1.2
                      refine ⟨Ff, fun m => preRun ms σ (pk m), fun m b => ∃ pm, (m, pm) ∈ flatP s.ps 0 ∧ backM pm = true ∧ S' (pk m) b, vs, (List.range ds.length).map fun j => preRun ms σ (vk j), fun j => S' (vk j), rfl, ⟨h'.f0, h'.fn, h'.fz, fun j b hb => h'.sF _ b hb, fun m b ⟨_, _, _, hb⟩ => h'.sF _ b hb⟩, ?_, ?_⟩
                      · refine
                          { lv := by rw [hvl, ← hdl, q1], lp := by simp [q1], res := fun j rm hj => ?_, arg := fun m pm hmem => ?_, non := fun m hno b hb => ?_, dU := fun j j' b hb hb' => ?_, dT := fun m m' b hb hb' => ?_, dUT := fun j m b hb hb' => ?_,
                            nU := fun j b hb => ⟨h'.nw _ b hb, h'.sz _ b hb⟩, nT := fun m b hb => ?_, ext := h'.ext }
                        · have hlt : j < ds.length := by rw [q1]; exact (List.getElem?_eq_some_iff.1 hj).1
                          have hdj := List.getElem?_eq_getElem hlt
                          have hk := keptR_spec c5 j _ hdj
                          rw [Nat.zero_add] at hk
                          have hok := h'.ok (vk j)
                          rw [hk] at hok
                          obtain ⟨r, hrj⟩ : ∃ r, fn.results.toList[j]? = some r := ⟨_, List.getElem?_eq_getElem (by rw [← g1]; exact hlt)⟩
                          obtain ⟨_, hv⟩ := hvs j r _ hrj hdj
                          refine RRes.coe (a := ds[j]) ?_ (q2 j _ _ hdj hj)
                          rw [getD_range _ _ _ _ hlt]
                          revert hok hv
                          generalize ds[j] = rm0
                          intro hok hv
                          cases rm0 with
                          | v d0 =>
                            obtain ⟨cs, e1, e2⟩ := hok
                            rw [(hv d0).1 rfl] at e1
                            exact ⟨cs, e1, e2⟩
                          | bx t d0 =>
                            obtain ⟨arr, T0, e1, e2, e3, e4⟩ := hok
                            exact ⟨loc' (vk j), arr, T0, (hv d0).2 t rfl, e1, e2, e3, e4⟩
                        · have hback : backM pm = true → coeD ((ms.foldl apm (gf (restrict (resTmps fn) G))) (pk m)) (outD pm) = true := by
                            intro hb
                            refine c2 (pk m, outD pm) ?_
                            rw [outKeys_eq]
                            exact List.mem_map.2 ⟨(m, pm), List.mem_filter.2 ⟨hmem, hb⟩, rfl⟩
                          have hpin := h'.pin (pk m) (by unfold pk; omega)
                          have hdiv : pk m / 64 = m := by unfold pk; omega
                          cases pm with
                          | ref t d0 d' =>
                            have hok := coeD_ok (hback rfl) (h'.ok (pk m))
                            obtain ⟨arr, T0, e1, e2, e3, e4⟩ := hok
                            obtain ⟨b, arr0, T1, k1, k2, k3, k4, k5⟩ := cin.arg m _ hmem
                            have hloc : loc' (pk m) = b := by
                              rw [hpin.2]
                              show locOf (V (pk m / 64)) = b
                              rw [hdiv, k1]; rfl
                            rw [hloc] at e1 e2 e3
                            exact ⟨b, arr, T0, k1, e1, ⟨_, hmem, rfl, e2⟩, fun x hx => ⟨⟨_, hmem, rfl, (e3 x hx).1⟩, (e3 x hx).2⟩, e4⟩
                          | «mut» d0 =>
                            have hok := coeD_ok (hback rfl) (h'.ok (pk m))
                            obtain ⟨cs, e1, e2⟩ := hok
                            have hval : val' (pk m) = V m := by
                              rw [hpin.1]
                              show V (pk m / 64) = V m
                              rw [hdiv]
                            rw [hval] at e1
                            exact ⟨cs, e1, e2.wide fun b hb => ⟨_, hmem, rfl, hb⟩⟩
                          | _ => trivial
                        · obtain ⟨pm, h1, h2, _⟩ := hb
                          rw [hno pm h1] at h2; cases h2
                        · have := h'.dj _ _ b hb hb'
                          unfold vk at this; omega
                        · obtain ⟨_, _, _, hb⟩ := hb
                          obtain ⟨_, _, _, hb'⟩ := hb'
                          have := h'.dj _ _ b hb hb'
                          unfold pk at this; omega
                        · obtain ⟨_, _, _, hb'⟩ := hb'
                          have := h'.dj _ _ b hb hb'
                          unfold vk pk at this; omega
                        · obtain ⟨_, _, _, hb⟩ := hb
                          exact ⟨h'.nw _ b hb, h'.sz _ b hb⟩
                      · simp only [Option.some.injEq] at hos
                        rw [← hos, outKeys_eq]
                        unfold cut outNs
                        simp only [List.map_append, List.map_map]
                        rfl
                    rcases hexit with he | he
                    · rw [he]; exact ⟨hdf, _, hres, hR⟩
                    · rw [he]; exact ⟨hdf, _, hres, hR⟩
                  · cases hl
      · cases hc
  · cases hc

/-- All functions of a table keep their contracts, where the library's do. -/
theorem prun_good {Tb : FuncId → Option FD} (hm : P.follows .mixedOrders = true) (hT : ∀ f d, Tb f = some d → compF P sg f = some d) (hO : Good P sg (orcI sg)) : ∀ n, Good P sg (prun Tb (orcI sg) n)
  | 0 => fun f s as os _ h => by cases h
  | n + 1 => fun f s as os hs h => by
    simp only [prun] at h
    split at h
    · rename_i d hd
      exact compF_ok hm (prun_good hm hT hO n) (hT f d hd) hs h
    · exact hO f s as os hs h
theorem orc_none (h : ∀ f s, sg f = some s → s.orc = none) : Good P sg (orcI sg) := fun f s as os hs ho => by
  unfold orcI at ho
  rw [hs] at ho
  simp only [h f s hs] at ho
  cases ho
end
end Go.Rsc
