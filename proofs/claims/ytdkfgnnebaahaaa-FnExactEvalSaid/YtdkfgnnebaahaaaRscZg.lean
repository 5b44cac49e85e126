/- Less may be known; an operation under a guard. No conditions. -/
import Derived.Test.YtdkfgnnebaahaaaRscZf
namespace Go.Rsc
open Go.RowKit
set_option linter.unusedVariables false
set_option linter.unusedSimpArgs false

section
variable {P : Program} {w w' : World} {F : Set} {Γ Γ' : Nat → D} {σ σ' : Nat → PV} {val : Nat → Value} {loc : Nat → Nat} {S : Nat → Set} {C : Cx} {tmps : Array Value}
variable {a : Act} {o : Oper} {K : Act → World → Prop} {Q : Exit → Act → World → Prop} {I : Interp} {r : SR} {sg : FuncId → Option Sig}

/-- Its guards all hold. -/
def live (σ : Nat → PV) : D → Bool
  | .gv g b d => (σ g).isB b && live σ d
  | _ => true

theorem Root.isRoot {q : Nat} {d : SD} {cs : List Value} {base : Option Nat} (h : Root w Γ val loc S q d cs base) : (Γ q).isRoot = true := by
  rcases h with ⟨a1, _⟩ | ⟨t, arr, a1, _⟩ <;> rw [a1] <;> rfl
theorem Ok.roots {k : Nat} : ∀ {x : D}, Ok P w F Γ σ val loc S k x → live σ x = true → ∀ q ∈ x.roots, (Γ q).isRoot = true
  | .gv g b d, h, hl, q, hq => by
    simp only [live, Bool.and_eq_true] at hl
    simp only [Ok, hl.1, if_true] at h
    exact Ok.roots h hl.2 q hq
  | .view o π, h, _, q, hq => by
    simp only [D.roots, List.mem_singleton] at hq; subst hq
    obtain ⟨⟨d, cs, base, x, c, ad, h1, _⟩, _⟩ := h
    exact h1.isRoot
  | .ptr o π, h, _, q, hq => by
    simp only [D.roots, List.mem_singleton] at hq; subst hq
    obtain ⟨⟨d, cs, base, x, c, b, off, h1, _⟩, _⟩ := h
    exact h1.isRoot
  | .tr o π, h, _, q, hq => by
    simp only [D.roots, List.mem_singleton] at hq; subst hq
    obtain ⟨d, cs, base, e, y, A, n, cap, m, h1, _⟩ := h
    exact h1.isRoot
  | .sl o π, h, _, q, hq => by
    simp only [D.roots, List.mem_singleton] at hq; subst hq
    obtain ⟨d, cs, base, e, y, A, n, cap, lo, hi, h1, _⟩ := h
    exact h1.isRoot
  | .ap o π, h, _, q, hq => by
    simp only [D.roots, List.mem_singleton] at hq; subst hq
    obtain ⟨d, cs, base, e, y, A, n, cap, ad, ki, pj, qs, h1, _⟩ := h
    exact h1.isRoot
  | .cb r t, h, _, q, hq => by
    simp only [D.roots, List.mem_singleton] at hq; subst hq
    obtain ⟨d, cs, base, arr, h1, _⟩ := h
    exact h1.isRoot
  | .cptr o r t π, h, _, q, hq => by
    simp only [D.roots, List.mem_singleton] at hq; subst hq
    obtain ⟨⟨d, cs, base, arr, x, h1, _⟩, _⟩ := h
    exact h1.isRoot
  | .none, _, _, q, hq | .v _, _, _, q, hq | .box _ _, _, _, q, hq | .bp _, _, _, q, hq | .rp _, _, _, q, hq | .tup _, _, _, q, hq | .clo _ _, _, _, q, hq => by simp [D.roots] at hq
theorem Ok.dead {k : Nat} : ∀ {x : D}, Ok P w F Γ σ val loc S k x → live σ x = false → Ok P w F Γ' σ val loc S k x
  | .gv g b d, h, hl => by
    simp only [Ok] at h ⊢
    split
    · rename_i hb
      rw [if_pos hb] at h
      simp only [live, hb, Bool.true_and] at hl
      exact Ok.dead h hl
    · rename_i hb
      rw [if_neg hb] at h
      exact h
  | .none, _, hl | .v _, _, hl | .box _ _, _, hl | .bp _, _, hl | .rp _, _, hl | .tup _, _, hl | .clo _ _, _, hl | .view _ _, _, hl | .ptr _ _, _, hl | .tr _ _, _, hl | .sl _ _, _, hl | .ap _ _, _, hl | .cb _ _, _, hl | .cptr _ _ _ _, _, hl => by simp [live] at hl
theorem Ok.regen {k : Nat} {x : D} (h : Ok P w F Γ σ val loc S k x) (hr : live σ x = true → ∀ q ∈ x.roots, (Γ q).isRoot = true → Γ' q = Γ q) : Ok P w F Γ' σ val loc S k x := by
  cases hl : live σ x with
  | false => exact h.dead hl
  | true => exact h.keep rfl rfl (fun _ => ⟨rfl, fun _ hb => hb, fun _ _ => rfl⟩) (fun _ hb => hb) (fun _ _ => rfl) (fun q hq => ⟨fun h1 => hr hl q hq h1, rfl, rfl, fun _ hs => ⟨hs, rfl⟩⟩) (fun q hq => ⟨rfl, fun _ hb => hb, fun _ _ => rfl⟩) (fun q hq => ⟨rfl, rfl⟩)

theorem RelX.regen (h : RelX C Γ σ val loc S F tmps w) (hw : ∀ k, Γ' k = .none ∨ ((Γ' k = Γ k ∨ ∃ g b, Γ' k = .gv g b (Γ k) ∧ (σ g).isB b = true) ∧ (live σ (Γ k) = true → ∀ q ∈ (Γ k).roots, (Γ q).isRoot = true → Γ' q = Γ q))) :
    RelX C Γ' σ val loc S F tmps w := by
  refine { h with ok := fun k => ?_ }
  rcases hw k with h1 | ⟨h1 | ⟨g, b, h1, h2⟩, h3⟩
  · rw [h1]; trivial
  · rw [h1]; exact (h.ok k).regen h3
  · rw [h1]
    simp only [Ok, h2, if_true]
    exact (h.ok k).regen h3

theorem coeD_ok {k : Nat} {x y : D} (hc : coeD x y = true) (h : Ok P w F Γ σ val loc S k x) : Ok P w F Γ σ val loc S k y := by
  unfold coeD at hc
  split at hc
  · obtain ⟨cs, h1, h2⟩ := h
    exact ⟨cs, h1.coe hc, h2.coe hc⟩
  · simp only [Bool.and_eq_true] at hc
    obtain ⟨e, hc⟩ := hc
    have e := Nat.eq_of_beq_eq_true e
    subst e
    obtain ⟨arr, T, h1, h2, h3, h4⟩ := h
    exact ⟨arr, T, h1, h2, h3, h4.coe hc⟩
  · rw [beq_iff_eq] at hc
    rw [← hc]; exact h
theorem coeD_roots {x y : D} (hc : coeD x y = true) : x.roots = y.roots := by
  unfold coeD at hc
  split at hc
  · rfl
  · rfl
  · rw [beq_iff_eq] at hc; rw [hc]
/-- Less may be known. -/
theorem RelX.less (h : RelX C Γ σ val loc S F tmps w) (hw : ∀ k, Γ' k = .none ∨ (coeD (Γ k) (Γ' k) = true ∧ ∀ q ∈ (Γ' k).roots, Γ q = Γ' q)) : RelX C Γ' σ val loc S F tmps w := by
  refine { h with ok := fun k => ?_ }
  rcases hw k with h1 | ⟨h1, h2⟩
  · rw [h1]; trivial
  · exact (coeD_ok h1 (h.ok k)).regen fun _ q hq _ => (h2 q hq).symm

theorem RelX.under (h : RelX C Γ σ val loc S F tmps w) {g : Nat} {b : Bool} (hb : (σ g).isB b = true) : RelX C (under Γ g b) σ val loc S F tmps w := by
  have hroot : ∀ q, (Γ q).isRoot = true → Rsc.under Γ g b q = Γ q := by
    intro q hq
    unfold Rsc.under
    cases hΓ : Γ q <;> simp [hΓ, D.isRoot] at hq ⊢
  refine { h with ok := fun k => ?_ }
  by_cases hk : ∃ d, Γ k = .gv g b d
  · obtain ⟨d, hd⟩ := hk
    have e : Rsc.under Γ g b k = d := by unfold Rsc.under; rw [hd]; simp
    have := h.ok k
    rw [hd] at this
    simp only [Ok, hb, if_true] at this
    rw [e]
    exact this.regen fun _ q _ hq => hroot q hq
  · have e : Rsc.under Γ g b k = Γ k := by
      unfold Rsc.under
      cases hΓ : Γ k <;> simp only
      rename_i g' b' d
      split
      · rename_i hh
        simp only [Bool.and_eq_true, beq_iff_eq] at hh
        have e1 := Nat.eq_of_beq_eq_true hh.1
        obtain ⟨_, e2⟩ := hh
        subst e1; subst e2
        exact absurd ⟨d, hΓ⟩ hk
      · rfl
    rw [e]
    exact (h.ok k).regen fun _ q _ hq => hroot q hq

theorem look_guardUpd (g : Nat) (b : Bool) (d : Option Nat) (U : List (Nat × D)) (k : Nat) :
    look (guardUpd g b d U) k = (look U k).map fun x => if d.any (fun d => Nat.beq k (tk d)) then .gv g b x else x := by
  induction U with
  | nil => rfl
  | cons e U ih =>
    obtain ⟨j, x⟩ := e
    simp only [guardUpd]
    by_cases hj : d.any (fun d => Nat.beq j (tk d)) = true
    · rw [if_pos hj, look_cons, look_cons]
      by_cases hk : k = j
      · subst hk; simp [hj]
      · simp [hk, ih]
    · rw [if_neg hj, look_cons, look_cons]
      by_cases hk : k = j
      · subst hk; simp [hj]
      · simp [hk, ih]

theorem lookS_mem {l : List (Nat × PX)} {k : Nat} {x : PX} (h : lookS l k = some x) : (k, x) ∈ l := by
  induction l with
  | nil => cases h
  | cons e l ih =>
    obtain ⟨j, y⟩ := e
    rw [lookS_cons] at h
    by_cases hk : k = j
    · subst hk; simp at h; simp [h]
    · simp [hk] at h; exact .tail _ (ih h)
theorem setAll_out {rs : List PV} {l : List (Nat × PX)} {k : Nat} (h : ∀ x, (k, x) ∉ l) : setAll σ rs l k = σ k := by
  unfold setAll
  cases hl : lookS l k with
  | none => rfl
  | some x => exact absurd (lookS_mem hl) (h x)
theorem setKeys_out {m : MS} {k : Nat} (h : setKeysOk m = true) (hk : look m.upd k = none) (rs : List PV) : setAll σ rs m.sets k = σ k := by
  refine setAll_out fun x hx => ?_
  have := List.all_eq_true.1 h _ hx
  simp [hk] at this
theorem run_out {k : Nat} (hp : r.pre = []) (h : setKeysOk r.main = true) (hk : look r.main.upd k = none) (hr : r.run I σ = some σ') : σ' k = σ k := by
  unfold SR.run at hr
  simp only [hp, preRun, List.foldl_nil] at hr
  split at hr
  · split at hr
    · simp only [Option.some.injEq] at hr
      subst hr
      exact setKeys_out h hk _
    · obtain ⟨rs, _, rfl⟩ := Option.map_eq_some_iff.1 hr
      exact setKeys_out h hk _
  · cases hr

theorem mem_any {l : List Nat} {p : Nat → Bool} : l.any p = false ↔ ∀ x ∈ l, p x = false := by simp [List.any_eq_false]

/-- Whether an update forgets. -/
theorem ap_out {U : List (Nat × D)} {kw so : List Nat} {k : Nat} (h : look U k = none) : ap Γ U kw so k = if forg U kw so (Γ k) then .none else Γ k := by
  unfold ap forg; simp only [h]
theorem forg_root {U : List (Nat × D)} {kw so : List Nat} {x : D} (h : x.isRoot = true) : forg U kw so x = false := by
  cases x <;> simp [D.isRoot] at h <;> rfl

theorem gopK_ok {j i : Nat} {ops : Array Oper} {x : Option (Nat × Bool) × SR} (h : RelX C Γ σ val loc S F a.tmps w) (hdt : ∀ d, o.dst = some d → d < C.nt) (hc : gopK j i C.P sg ops Γ o = some x) (hset : setKeysOk x.2.main = true) (hI : Good C.P sg I)
    (hrun : (match x.1 with
      | none => x.2.run I σ
      | some (g, b) => if (σ g).isB b then x.2.run I σ else match o.dst with
        | some d => some (setAll σ [] [(tk d, .unit)])
        | none => some σ) = some σ') (hK : Cont C (apS Γ x.2) σ' a K) :
    if Region.wanted o (yielded ops a.tmps) then o.wp C.P a w K Q else K (a.put o.dst undef) w := by
  unfold gopK at hc
  split at hc
  · rename_i hg
    obtain ⟨r, h1, rfl⟩ := Option.map_eq_some_iff.1 hc
    simp only [Region.wanted, hg, if_true]
    exact copF_ok h hdt h1 hI hrun hK
  · rename_i n b hg
    split at hc
    · cases hc
    · rename_i t ht
      cases hr : cop j (64 * i) C.P sg (under Γ (tk t) b) o with
      | none => simp only [hr] at hc; cases hc
      | some r =>
        simp only [hr] at hc
        by_cases hcond : gcond Γ (tk t) o r = true
        rotate_left
        · rw [if_neg hcond] at hc; cases hc
        · rw [if_pos hcond] at hc
          simp only [Option.some.injEq] at hc
          subst hc
          unfold gcond at hcond
          simp only [Bool.and_eq_true, List.all_eq_true, List.isEmpty_iff, Bool.not_eq_true', Option.isSome_eq_false_iff, Option.isNone_iff_eq_none] at hcond
          obtain ⟨⟨⟨⟨⟨cp, cg⟩, cu⟩, cs⟩, cn⟩, cd⟩ := hcond
          -- the guard's value
          have hwant : Region.wanted o (yielded ops a.tmps) = (σ (tk t)).isB b := by
            have hok := h.ok (tk t)
            have hval := h.tm t
            have hv : ∀ v, val (tk t) = .bool v → yielded ops a.tmps n = some v := by
              intro v hv
              rw [hv] at hval
              unfold yielded
              rw [ht]
              simp only [Option.bind_some]
              cases hq : a.tmps[t]? with
              | none => simp [Array.getD_eq_getD_getElem?, hq, undef] at hval
              | some u =>
                simp only [Array.getD_eq_getD_getElem?, hq, Option.getD_some] at hval
                rw [← hval]
            have hu : val (tk t) = undef → yielded ops a.tmps n = none := by
              intro hv
              rw [hv] at hval
              unfold yielded
              rw [ht]
              simp only [Option.bind_some]
              cases hq : a.tmps[t]? with
              | none => rfl
              | some u =>
                simp only [Array.getD_eq_getD_getElem?, hq, Option.getD_some] at hval
                rw [← hval]; rfl
            have hb : Ok C.P w F Γ σ val loc S (tk t) (.v .bool) → (yielded ops a.tmps n == some b) = (σ (tk t)).isB b := by
              rintro ⟨cs, hf, hR⟩
              obtain ⟨v, h1, h2⟩ := R.isBool hf hR
              rw [hv v h1, h2]
              simp [PV.isB]
            simp only [Region.wanted, hg]
            cases hΓ : Γ (tk t) <;> simp only [hΓ] at cg hok <;> try cases cg
            case v d =>
              cases d <;> (try simp only at cg) <;> try cases cg
              exact hb hok
            case gv g2 b2 d2 =>
              cases d2 <;> (try simp only at cg) <;> try cases cg
              rename_i d3
              cases d3 <;> (try simp only at cg) <;> try cases cg
              simp only [Ok] at hok
              split at hok
              · exact hb hok
              · rw [hu hok.1, hok.2]; rfl
          have hne : ∀ d, o.dst = some d → tk t ≠ tk d := by
            intro d hd e
            rw [hd] at cd
            simp only [Bool.and_eq_true] at cd
            rw [← e, cn] at cd
            simp at cd
          have hΓ2 : ∀ k, apS Γ { r with main := { r.main with upd := guardUpd (tk t) b o.dst r.main.upd } } k = ap Γ (guardUpd (tk t) b o.dst r.main.upd) r.main.kw r.main.so k := by
            intro k; simp only [apS, cp, List.foldl_nil, apm]
          have his : ∀ q, (look (guardUpd (tk t) b o.dst r.main.upd) q).isSome = (look r.main.upd q).isSome := by
            intro q; rw [look_guardUpd]; cases look r.main.upd q <;> rfl
          have hforg : ∀ y, forg (guardUpd (tk t) b o.dst r.main.upd) r.main.kw r.main.so y = forg r.main.upd r.main.kw r.main.so y := by
            intro y; unfold forg; simp only [his]
          have hlk : ∀ k y, look r.main.upd k = some y → (k, y) ∈ r.main.upd := by
            intro k y hy
            generalize r.main.upd = U at hy ⊢
            induction U with
            | nil => cases hy
            | cons e U ih =>
              obtain ⟨j, z⟩ := e
              rw [look_cons] at hy
              by_cases hk : k = j
              · subst hk; simp at hy; simp [hy]
              · simp [hk] at hy; exact .tail _ (ih hy)
          have hany : ∀ k, o.dst.any (fun d => Nat.beq k (tk d)) = true ↔ ∃ d, o.dst = some d ∧ k = tk d := by
            intro k
            cases o.dst with
            | none => simp
            | some d => simp [beq_iff]
          -- of a key that is said anew: it is the slot, or a root as it was
          have hcase : ∀ k y, look r.main.upd k = some y → ((∃ d, o.dst = some d ∧ k = tk d) ∧ ∀ q ∈ y.roots, (¬ ∃ d, o.dst = some d ∧ q = tk d) ∧ ((Γ q).isRoot = true ∨ (look r.main.upd q).isSome = true)) ∨ (Γ k = y ∧ y.isRoot = true ∧ ¬ ∃ d, o.dst = some d ∧ k = tk d) := by
            intro k y hy
            have := cu _ (hlk k y hy)
            simp only [Bool.or_eq_true, Bool.and_eq_true, beq_iff_eq, Bool.not_eq_true', List.all_eq_true] at this
            rcases this with ⟨h1, h2⟩ | ⟨h1, h2, h3⟩
            · refine .inl ⟨(hany k).1 h1, fun q hq => ⟨fun hd => ?_, (h2 q hq).2⟩⟩
              have := (hany q).2 hd
              rw [(h2 q hq).1] at this; cases this
            · refine .inr ⟨h1, h2, fun hd => ?_⟩
              have := (hany k).2 hd
              rw [h3] at this; cases this
          have hso : ∀ d, o.dst = some d → mem (tk d) r.main.so = false := by
            intro d hd
            cases hm : mem (tk d) r.main.so with
            | false => rfl
            | true =>
              have := cs _ (mem_iff.1 hm)
              rw [(hany (tk d)).2 ⟨d, hd, rfl⟩] at this
              cases this
          by_cases hb : (σ (tk t)).isB b = true
          · rw [hwant, if_pos hb]
            simp only [hb, if_true] at hrun
            have hset' : setKeysOk r.main = true := by
              unfold setKeysOk at hset ⊢
              simp only [his] at hset
              exact hset
            have hrun' : r.run I σ = some σ' := hrun
            refine cop_ok (h.under hb) hdt hr hI hrun' fun a' w' hrel hdef => hK a' w' ?_ hdef
            have hσg : σ' (tk t) = σ (tk t) := run_out cp hset' cn hrun'
            have hΓ1 : ∀ k, apS (under Γ (tk t) b) r k = ap (under Γ (tk t) b) r.main.upd r.main.kw r.main.so k := by
              intro k; simp only [apS, cp, List.foldl_nil, apm]
            obtain ⟨val', loc', S', F', h'⟩ := hrel
            refine ⟨val', loc', S', F', h'.regen fun k => ?_⟩
            rw [hΓ1 k, hΓ2 k]
            have hund : ∀ q, (Γ q).isRoot = true → under Γ (tk t) b q = Γ q := by
              intro q hq
              unfold under
              cases hΓ : Γ q <;> simp [hΓ, D.isRoot] at hq ⊢
            -- a root that stood before
            have hr1 : ∀ q, (Γ q).isRoot = true → (¬ ∃ d, o.dst = some d ∧ q = tk d) → ap Γ (guardUpd (tk t) b o.dst r.main.upd) r.main.kw r.main.so q = ap (under Γ (tk t) b) r.main.upd r.main.kw r.main.so q := by
              intro q hq hnd
              cases hl : look r.main.upd q with
              | none =>
                rw [ap_out hl, ap_out (by rw [look_guardUpd, hl]; rfl), hund q hq, hforg]
              | some y =>
                have hn : o.dst.any (fun d => Nat.beq q (tk d)) = false := by
                  cases hx : o.dst.any (fun d => Nat.beq q (tk d)) with
                  | false => rfl
                  | true => exact absurd ((hany q).1 hx) hnd
                rw [ap_at hl, ap_at (x := y) (by rw [look_guardUpd, hl]; simp [hn])]
            cases hl : look r.main.upd k with
            | some y =>
              have e1 : ap (under Γ (tk t) b) r.main.upd r.main.kw r.main.so k = y := ap_at hl
              rcases hcase k y hl with ⟨hd, hq⟩ | ⟨h1, h2, h3⟩
              · have e2 : ap Γ (guardUpd (tk t) b o.dst r.main.upd) r.main.kw r.main.so k = .gv (tk t) b y := ap_at (by rw [look_guardUpd, hl]; simp [(hany k).2 hd])
                rw [e1, e2]
                refine .inr ⟨.inr ⟨tk t, b, rfl, by rw [hσg]; exact hb⟩, fun _ q hqm hroot => ?_⟩
                rw [hΓ1 q] at hroot ⊢
                rw [hΓ2 q]
                obtain ⟨hqd, hq2⟩ := hq q hqm
                rcases hq2 with hq2 | hq2
                · exact hr1 q hq2 hqd
                · obtain ⟨z, hz⟩ := Option.isSome_iff_exists.1 hq2
                  have hn : o.dst.any (fun d => Nat.beq q (tk d)) = false := by
                    cases hx : o.dst.any (fun d => Nat.beq q (tk d)) with
                    | false => rfl
                    | true => exact absurd ((hany q).1 hx) hqd
                  rw [ap_at hz, ap_at (x := z) (by rw [look_guardUpd, hz]; simp [hn])]
              · have hn : o.dst.any (fun d => Nat.beq k (tk d)) = false := by
                  cases hx : o.dst.any (fun d => Nat.beq k (tk d)) with
                  | false => rfl
                  | true => exact absurd ((hany k).1 hx) h3
                have e2 : ap Γ (guardUpd (tk t) b o.dst r.main.upd) r.main.kw r.main.so k = y := ap_at (by rw [look_guardUpd, hl]; simp [hn])
                rw [e1, e2]
                refine .inr ⟨.inl rfl, fun _ q hqm _ => ?_⟩
                cases y <;> simp [D.isRoot] at h2 <;> simp [D.roots] at hqm
            | none =>
              have e1 := ap_out (Γ := under Γ (tk t) b) (kw := r.main.kw) (so := r.main.so) hl
              have e2 : ap Γ (guardUpd (tk t) b o.dst r.main.upd) r.main.kw r.main.so k = if forg r.main.upd r.main.kw r.main.so (Γ k) then .none else Γ k := by
                rw [ap_out (by rw [look_guardUpd, hl]; rfl), hforg]
              rw [e1, e2]
              cases hf : forg r.main.upd r.main.kw r.main.so (Γ k) with
              | true => exact .inl rfl
              | false =>
                simp only [Bool.false_eq_true, if_false]
                -- what it was
                have hx : ∃ y, under Γ (tk t) b k = y ∧ (Γ k = y ∨ Γ k = .gv (tk t) b y) := by
                  refine ⟨_, rfl, ?_⟩
                  by_cases hk : ∃ d, Γ k = .gv (tk t) b d
                  · obtain ⟨d, hd⟩ := hk
                    have e : under Γ (tk t) b k = d := by unfold under; rw [hd]; simp
                    exact .inr (by rw [e]; exact hd)
                  · refine .inl ?_
                    unfold under
                    cases hΓ : Γ k <;> simp only
                    rename_i g' b' d
                    split
                    · rename_i hh
                      simp only [Bool.and_eq_true, beq_iff_eq] at hh
                      have e1 := Nat.eq_of_beq_eq_true hh.1
                      obtain ⟨_, e2⟩ := hh
                      subst e1; subst e2
                      exact absurd ⟨d, hΓ⟩ hk
                    · rfl
                obtain ⟨y, hy, hy2⟩ := hx
                have hfy : forg r.main.upd r.main.kw r.main.so y = false := by
                  rcases hy2 with e | e
                  · rw [← e]; exact hf
                  · rw [e] at hf
                    simp only [forg, D.roots, D.deep, D.weak, List.any_cons, Bool.or_eq_false_iff] at hf ⊢
                    exact ⟨⟨hf.1.1, hf.1.2.2⟩, hf.2⟩
                rw [hy, hfy]
                simp only [Bool.false_eq_true, if_false]
                refine .inr ⟨?_, fun hlive q hqm hroot => ?_⟩
                · rcases hy2 with e | e
                  · exact .inl e
                  · exact .inr ⟨tk t, b, e, by rw [hσg]; exact hb⟩
                · rw [hΓ1 q] at hroot ⊢
                  rw [hΓ2 q]
                  -- it stood before
                  have hlv : ∀ z : D, z.deep.any (fun o => (look r.main.upd o).isSome) = false → live σ' z = live σ z := by
                    intro z
                    induction z with
                    | gv g' b' d ih =>
                      intro hz
                      simp only [D.deep, List.any_cons, Bool.or_eq_false_iff, Option.isSome_eq_false_iff, Option.isNone_iff_eq_none] at hz
                      simp only [live, ih hz.2, run_out cp hset' hz.1 hrun']
                    | _ => intro _; rfl
                  have hly : live σ y = true := by
                    rw [← hlv y ?_]
                    · exact hlive
                    · simp only [forg, Bool.or_eq_false_iff] at hfy
                      exact hfy.1.2
                  have hqr : (Γ q).isRoot = true := by
                    have hok := h.ok k
                    rcases hy2 with e | e
                    · rw [e] at hok; exact hok.roots hly q hqm
                    · rw [e] at hok; exact hok.roots (by simp only [live, hb, hly, Bool.and_self]) q (by simpa [D.roots] using hqm)
                  refine hr1 q hqr ?_
                  rintro ⟨d, hd, rfl⟩
                  have hm := hso d hd
                  simp only [forg, Bool.or_eq_false_iff] at hfy
                  have := mem_any.1 hfy.1.1 (tk d) hqm
                  simp only [hm, Bool.not_false, Bool.and_true] at this
                  rw [hd] at cd
                  simp only [Bool.and_eq_true] at cd
                  rw [cd.1] at this; cases this
          · rw [hwant, if_neg hb]
            simp only [hb, if_false, Bool.false_eq_true] at hrun
            have hd0 : ∀ (Γ1 : Nat → D), (∀ k, (¬ ∃ d, o.dst = some d ∧ k = tk d) → (Γ k).isRoot = true → Γ1 k = Γ k) → (∀ k, (¬ ∃ d, o.dst = some d ∧ k = tk d) → forg r.main.upd r.main.kw r.main.so (Γ k) = false → Γ1 k = Γ k) →
                (∀ k, Γ1 k ≠ .none → (¬ ∃ d, o.dst = some d ∧ k = tk d) → Γ1 k = Γ k) →
                (∀ d y, o.dst = some d → look r.main.upd (tk d) = some y → Γ1 (tk d) = .gv (tk t) b y) → ∀ {σ1 : Nat → PV} {val1 : Nat → Value} {loc1 : Nat → Nat} {S1 : Nat → Set} {F1 : Set} {tmps1 : Array Value}, σ1 (tk t) = σ (tk t) → RelX C Γ1 σ1 val1 loc1 S1 F1 tmps1 w →
                RelX C (apS Γ { r with main := { r.main with upd := guardUpd (tk t) b o.dst r.main.upd } }) σ1 val1 loc1 S1 F1 tmps1 w := by
              intro Γ1 g1 g2 g3 g4 σ1 val1 loc1 S1 F1 tmps1 hσ1 h1
              refine h1.regen fun k => ?_
              rw [hΓ2 k]
              have hrt : ∀ q, (¬ ∃ d, o.dst = some d ∧ q = tk d) → (Γ q).isRoot = true → ap Γ (guardUpd (tk t) b o.dst r.main.upd) r.main.kw r.main.so q = Γ q := by
                intro q hqd hroot
                cases hl : look r.main.upd q with
                | none => rw [ap_out (by rw [look_guardUpd, hl]; rfl), forg_root hroot]; simp
                | some y =>
                  have hn : o.dst.any (fun d => Nat.beq q (tk d)) = false := by
                    cases hx : o.dst.any (fun d => Nat.beq q (tk d)) with
                    | false => rfl
                    | true => exact absurd ((hany q).1 hx) hqd
                  rw [ap_at (x := y) (by rw [look_guardUpd, hl]; simp [hn])]
                  rcases hcase q y hl with ⟨hd, _⟩ | ⟨e, _⟩
                  · exact absurd hd hqd
                  · exact e.symm
              cases hl : look r.main.upd k with
              | some y =>
                rcases hcase k y hl with ⟨⟨d, hd, rfl⟩, hq⟩ | ⟨e1, e2, e3⟩
                · have e2 : ap Γ (guardUpd (tk t) b o.dst r.main.upd) r.main.kw r.main.so (tk d) = .gv (tk t) b y := ap_at (by rw [look_guardUpd, hl]; simp [(hany (tk d)).2 ⟨d, hd, rfl⟩])
                  rw [e2, g4 d y hd hl]
                  exact .inr ⟨.inl rfl, fun hlv => by simp [live, hσ1, hb] at hlv⟩
                · rw [hrt k e3 (by rw [e1]; exact e2), g1 k e3 (by rw [e1]; exact e2)]
                  refine .inr ⟨.inl rfl, fun _ q hqm _ => ?_⟩
                  rw [e1] at hqm
                  cases y <;> simp [D.isRoot] at e2 <;> simp [D.roots] at hqm
              | none =>
                have hkd : ¬ ∃ d, o.dst = some d ∧ k = tk d := by
                  rintro ⟨d, hd, rfl⟩
                  rw [hd] at cd
                  simp [hl] at cd
                rw [ap_out (by rw [look_guardUpd, hl]; rfl), hforg]
                cases hf : forg r.main.upd r.main.kw r.main.so (Γ k) with
                | true => exact .inl rfl
                | false =>
                  simp only [Bool.false_eq_true, if_false]
                  rw [g2 k hkd hf]
                  refine .inr ⟨.inl rfl, fun hlv q hqm hroot => ?_⟩
                  have hqd : ¬ ∃ d, o.dst = some d ∧ q = tk d := by
                    rintro ⟨d, hd, rfl⟩
                    rw [hd] at cd
                    simp only [Bool.and_eq_true] at cd
                    obtain ⟨y, hy⟩ := Option.isSome_iff_exists.1 cd.1
                    rw [g4 d y hd hy] at hroot
                    simp [D.isRoot] at hroot
                  have hn : Γ1 q ≠ .none := fun e => by simp [e, D.isRoot] at hroot
                  have e := g3 q hn hqd
                  rw [hΓ2 q, e]
                  exact hrt q hqd (by rw [← e]; exact hroot)
            cases hdst : o.dst with
            | none =>
              rw [hdst] at hrun
              simp only [Option.some.injEq] at hrun
              subst hrun
              refine hK _ _ ⟨val, loc, S, F, hd0 Γ (fun k _ _ => rfl) (fun k _ _ => rfl) (fun k _ _ => rfl) (fun d y hd => by rw [hdst] at hd; cases hd) rfl h⟩ rfl
            | some d =>
              rw [hdst] at hrun
              simp only [Option.some.injEq] at hrun
              subst hrun
              rw [hdst] at cd
              simp only [Bool.and_eq_true] at cd
              obtain ⟨y, hy⟩ := Option.isSome_iff_exists.1 cd.1
              have hgd := hne d hdst
              have h1 := h.set1 (t := d) (hdt d hdst) (x := .gv (tk t) b y) (v := undef) (p := .unit) (by
                simp only [Ok]
                rw [updF_ne _ _ hgd, if_neg hb, updF_same, updF_same]
                exact ⟨rfl, rfl⟩)
              rw [setAll_one] at hK
              refine hK _ _ ⟨_, _, _, _, hd0 _ (fun k hk hroot => ?_) (fun k hk hf => ?_) (fun k hk hkd => ?_) (fun d' y' hd' hy' => ?_) (updF_ne _ _ hgd) h1⟩ rfl
              all_goals try
                have hkn : look [(tk d, D.gv (tk t) b y)] k = none := by
                  rw [look_cons, look_nil, if_neg]
                  first
                    | exact fun e => hk ⟨d, hdst, e⟩
                    | exact fun e => hkd ⟨d, hdst, e⟩
              · rw [ap_out hkn, forg_root hroot]; simp
              · rw [ap_out hkn]
                have : forg [(tk d, D.gv (tk t) b y)] [tk d] [] (Γ k) = false := by
                  have hsub : ∀ q, (look [(tk d, D.gv (tk t) b y)] q).isSome = true → q = tk d := by
                    intro q hq
                    rw [look_cons, look_nil] at hq
                    by_cases e : q = tk d
                    · exact e
                    · simp [e] at hq
                  have hm := hso d hdst
                  simp only [forg, Bool.or_eq_false_iff] at hf ⊢
                  refine ⟨⟨mem_any.2 fun q hq => ?_, mem_any.2 fun q hq => ?_⟩, mem_any.2 fun q hq => ?_⟩
                  · cases hs : (look [(tk d, D.gv (tk t) b y)] q).isSome with
                    | false => rfl
                    | true =>
                      have e := hsub q hs
                      subst e
                      have := mem_any.1 hf.1.1 (tk d) hq
                      rw [cd.1, hm] at this; cases this
                  · cases hs : (look [(tk d, D.gv (tk t) b y)] q).isSome with
                    | false => rfl
                    | true =>
                      have e := hsub q hs
                      subst e
                      have := mem_any.1 hf.1.2 (tk d) hq
                      rw [cd.1] at this; cases this
                  · cases hs : mem q [tk d] with
                    | false => rfl
                    | true =>
                      have e : q = tk d := by simpa [mem_iff] using hs
                      subst e
                      have := mem_any.1 hf.2 (tk d) hq
                      rw [cd.2] at this; cases this
                rw [this]; simp
              · rw [ap_out hkn] at hk ⊢
                split at hk
                · exact absurd rfl hk
                · rename_i hff
                  rw [if_neg hff]
              · rw [hdst] at hd'
                simp only [Option.some.injEq] at hd'
                subst hd'
                rw [hy] at hy'
                simp only [Option.some.injEq] at hy'
                subst hy'
                exact ap_at (by rw [look_cons]; simp)
end
end Go.Rsc
