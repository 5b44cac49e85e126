/- Code: what compiles runs as its pure program does. No conditions. -/
import Derived.Test.YtdkfgnnebaahaaaRscZi
import Derived.LoopN
import Derived.Scope
namespace Go.Rsc
open Go.RowKit
set_option linter.unusedVariables false
set_option linter.unusedSimpArgs false

def toExit : Ex → Exit
  | .n => .normal
  | .x id => .exit id
  | .r => .ret
def atEx (q : Post) : Ex → Option GL
  | .n => q.n
  | .x id => (q.ex.find? fun y => Nat.beq y.1 id).map (·.2)
  | .r => q.r
def PostOk (C : Cx) (q : Post) (e : Ex) (σ : Nat → PV) (tmps : Array Value) (w : World) : Prop := ∃ H, atEx q e = some H ∧ Rel C (gf H) σ tmps w

section
variable {C : Cx} {sg : FuncId → Option Sig} {I : Interp} {σ σ' : Nat → PV} {a : Act} {w : World} {tmps : Array Value} {F : Set} {val : Nat → Value} {loc : Nat → Nat} {S : Nat → Set}

theorem Rel.wk0 {G H : GL} (h : Rel C (gf G) σ tmps w) (hw : wk0 G H = true) : Rel C (gf H) σ tmps w := by
  obtain ⟨val, loc, S, F, h⟩ := h
  refine ⟨val, loc, S, F, h.less fun k => ?_⟩
  by_cases hn : gf H k = .none
  · exact .inl hn
  · right
    have := List.all_eq_true.1 hw _ (gf_mem hn)
    simp only [Bool.and_eq_true, List.all_eq_true, beq_iff_eq] at this
    exact ⟨this.1, fun q hq => this.2 q (List.mem_append_left _ hq)⟩
theorem gf_none {G : GL} {k : Nat} (h : k ∉ keysOf G) : gf G k = .none := by
  by_cases hn : gf G k = .none
  · exact hn
  · exact absurd (List.mem_map.2 ⟨_, gf_mem hn, rfl⟩) h
theorem Rel.frzs {l : List (Nat × D)} : ∀ {Γ : Nat → D}, Rel C Γ σ tmps w → (∀ x ∈ l, FzD (Γ x.1) x.2) → (∀ x ∈ l, ∀ y ∈ l, x.1 = y.1 → x.2 = y.2) → Rel C (l.foldl (fun Γ x => ap Γ [x] [] []) Γ) σ tmps w := by
  induction l with
  | nil => intro Γ h _ _; exact h
  | cons x l ih =>
    intro Γ h h1 h2
    obtain ⟨val, loc, S, F, h⟩ := h
    have e3 := h1 x (by simp)
    obtain ⟨k, y⟩ := x
    obtain ⟨S', F', h'⟩ := h.frzD e3
    refine ih ⟨val, loc, S', F', h'⟩ (fun z hz => ?_) (fun z hz z' hz' => h2 z (by simp [hz]) z' (by simp [hz']))
    have g3 := h1 z (by simp [hz])
    by_cases hk : z.1 = k
    · have : z.2 = y := h2 z (by simp [hz]) (k, y) (by simp) hk
      rw [this, hk]
      have e : (fun (Γ : Nat → D) (x : Nat × D) => ap Γ [x] [] []) Γ (k, y) k = y := ap_at (by simp [look_cons])
      rw [e]
      exact e3.refl
    · have hl : look [(k, y)] z.1 = none := by simp [look_cons, look_nil, hk]
      have e : (fun (Γ : Nat → D) (x : Nat × D) => ap Γ [x] [] []) Γ (k, y) z.1 = Γ z.1 := by
        show ap Γ [(k, y)] [] [] z.1 = _
        rw [ap_out hl, forg_root g3.root]
        rfl
      rw [e]
      exact g3
theorem Rel.tabs {Γ : Nat → D} {ks : List Nat} (h : Rel C Γ σ tmps w) (hk : ∀ k, Γ k ≠ .none → k ∈ ks) : Rel C (gf (tab Γ ks)) σ tmps w := by
  have e : gf (tab Γ ks) = Γ := by
    funext k
    rw [gf_tab]
    split
    · rfl
    · rename_i hn
      by_cases h0 : Γ k = .none
      · exact h0.symm
      · exact absurd (hk k h0) hn
  rw [e]
  exact h
theorem Rel.wk {G H : GL} (h : Rel C (gf G) σ tmps w) (hw : Rsc.wk G H = true) : Rel C (gf H) σ tmps w := by
  refine Rel.wk0 (G := frzG G H) ?_ hw
  unfold frzG
  split
  · exact h
  · rename_i l hl
    have hmem : ∀ x ∈ frzKeys G H, x.1 ∈ keysOf G ∧ frz1 (gf G x.1) (gf H x.1) = some x.2 := by
      intro x hx
      obtain ⟨y, hy, e⟩ := List.mem_filterMap.1 hx
      obtain ⟨d, e1, e2⟩ := Option.map_eq_some_iff.1 e
      subst e2
      exact ⟨List.mem_map.2 ⟨y, hy, rfl⟩, e1⟩
    have h1 := Rel.frzs (l := frzKeys G H) h (fun x hx => frz1_ok (hmem x hx).2) (fun x hx y hy e => by
      have e1 := (hmem x hx).2
      have e2 := (hmem y hy).2
      rw [e, e2] at e1
      simpa using e1.symm)
    refine Rel.tabs h1 ?_
    have hkeys : ∀ (l : List (Nat × D)) (Γ : Nat → D), (∀ x ∈ l, x.1 ∈ keysOf G) → (∀ k, Γ k ≠ .none → k ∈ keysOf G) → ∀ k, l.foldl (fun Γ x => ap Γ [x] [] []) Γ k ≠ .none → k ∈ keysOf G := by
      intro l
      induction l with
      | nil => intro Γ _ h k hk; exact h k hk
      | cons x l ih =>
        intro Γ hx h k hk
        refine ih _ (fun y hy => hx y (by simp [hy])) (fun k hk => ?_) k hk
        by_cases e : k = x.1
        · rw [e]; exact hx x (by simp)
        · refine h k fun hn => hk ?_
          obtain ⟨k0, d0⟩ := x
          have hl : look [(k0, d0)] k = none := by simp only [look_cons, look_nil]; rw [if_neg e]
          show ap Γ [(k0, d0)] [] [] k = _
          rw [ap_out hl, hn]
          split <;> rfl
    exact hkeys _ _ (fun x hx => (hmem x hx).1) (fun k hk => by
      by_cases h2 : k ∈ keysOf G
      · exact h2
      · exact absurd (gf_none h2) hk)
/-- What is frozen ahead of a return. -/
theorem retMS_ok : ∀ (ts : List Nat) {Γ : Nat → D} {σ : Nat → PV} {S : Nat → Set} {F : Set}, RelX C Γ σ val loc S F tmps w → ∃ S' F', RelX C ((retMS C.P Γ ts).foldl apm Γ) (preRun (retMS C.P Γ ts) σ) val loc S' F' tmps w
  | [], Γ, σ, S, F, h => ⟨S, F, h⟩
  | t :: ts, Γ, σ, S, F, h => by
    unfold retMS
    split
    · split
      · rename_i m hm
        obtain ⟨S1, F1, h1⟩ := fzOne_ok h hm
        obtain ⟨S2, F2, h2⟩ := retMS_ok ts h1
        refine ⟨S2, F2, ?_⟩
        unfold preRun at h2 ⊢
        rw [List.foldl_append, List.foldl_append]
        exact h2
      · exact retMS_ok ts h
    · exact retMS_ok ts h
theorem mem_dedup {k : Nat} : ∀ {l : List Nat}, k ∈ l → k ∈ dedup l
  | x :: l, h => by
    unfold dedup
    split
    · rename_i hx
      rcases List.mem_cons.1 h with rfl | h
      · obtain ⟨y, hy, e⟩ := List.any_eq_true.1 hx
        rw [beq_iff.1 e]; exact mem_dedup hy
      · exact mem_dedup h
    · rcases List.mem_cons.1 h with rfl | h
      · exact List.mem_cons_self
      · exact List.mem_cons_of_mem _ (mem_dedup h)
theorem foldl_keys {K : List Nat} : ∀ (ms : List MS) (Γ : Nat → D), (∀ k, Γ k ≠ .none → k ∈ K) → (∀ m ∈ ms, ∀ k ∈ updKeys m.upd, k ∈ K) → ∀ k, ms.foldl apm Γ k ≠ .none → k ∈ K
  | [], Γ, h, _, k, hk => h k hk
  | m :: ms, Γ, h, hm, k, hk => by
    refine foldl_keys ms (apm Γ m) (fun k hk => ?_) (fun m' hm' => hm m' (by simp [hm'])) k hk
    cases hl : look m.upd k with
    | some x => exact hm m (by simp) k (List.mem_map.2 ⟨(k, x), look_some hl, rfl⟩)
    | none =>
      refine h k fun hn => hk ?_
      show ap Γ m.upd m.kw m.so k = _
      rw [ap_out hl, hn]
      split <;> rfl
theorem wkO_ok {G H : Option GL} {A : GL} (hw : wkO G H = true) (hG : G = some A) (h : Rel C (gf A) σ tmps w) : ∃ B, H = some B ∧ Rel C (gf B) σ tmps w := by
  subst hG
  cases H with
  | none => cases hw
  | some B => exact ⟨B, rfl, h.wk hw⟩
theorem wkP_ok {q q' : Post} {e : Ex} (hw : wkP q q' = true) (h : PostOk C q e σ tmps w) : PostOk C q' e σ tmps w := by
  obtain ⟨H, h1, h2⟩ := h
  unfold wkP at hw
  simp only [Bool.and_eq_true, List.all_eq_true] at hw
  obtain ⟨⟨hn, hr⟩, hx⟩ := hw
  cases e with
  | n => exact wkO_ok hn h1 h2
  | r => exact wkO_ok hr h1 h2
  | x id =>
    obtain ⟨⟨i, G⟩, h3, h4⟩ := Option.map_eq_some_iff.1 h1
    simp only at h4
    subst h4
    have h5 : Nat.beq i id = true := by have := List.find?_some h3; exact this
    have h5 := beq_iff.1 h5
    subst h5
    have h6 := hx _ (List.mem_of_find?_eq_some h3)
    simp only at h6
    split at h6
    · rename_i j H' hf
      exact ⟨H', by simp only [atEx, hf, Option.map_some], h2.wk h6⟩
    · cases h6

theorem fillAt_cut (σ : Nat → PV) (k : Nat) : ∀ (ks ls : List Nat), fillAt ks ls.length (cut (ls ++ ks) σ) k = if k ∈ ks then σ k else .unit
  | [], ls => by simp [fillAt]
  | j :: ks, ls => by
    simp only [fillAt]
    by_cases h : k = j
    · subst h
      simp [cut, List.getD_eq_getElem?_getD]
    · have : Nat.beq k j = false := beq_false.2 h
      rw [this]
      have ih := fillAt_cut σ k ks (ls ++ [j])
      simp only [List.append_assoc, List.singleton_append, List.length_append, List.length_singleton] at ih
      simp [ih, h]
theorem fill_cut (ks : List Nat) (σ : Nat → PV) (k : Nat) : fill ks (cut ks σ) k = if k ∈ ks then σ k else .unit := fillAt_cut σ k ks []

theorem carried_mem : ∀ {G : GL} {k : Nat} {d : D}, (k, d) ∈ G → carr d = true → k ∈ carried G
  | (j, x) :: G, k, d, h, hc => by
    rcases List.mem_cons.1 h with e | e
    · simp only [Prod.mk.injEq] at e
      obtain ⟨rfl, rfl⟩ := e
      cases d <;> simp [carr] at hc <;> simp [carried, hc]
    · have := carried_mem e hc
      cases x <;> simp only [carried, List.mem_cons] <;> first | exact this | exact .inr this | (split <;> simp [this])
theorem Ok.sig {k : Nat} {P : Program} {Γ : Nat → D} {x : D} (h : Ok P w F Γ σ val loc S k x) (hg : ∀ g b d, x ≠ .gv g b d) (hc : carr x = true → σ' k = σ k) (hu : carr x = false → σ' k = σ k ∨ σ' k = .unit) : Ok P w F Γ σ' val loc S k x := by
  cases x with
  | none => trivial
  | gv g b d => exact absurd rfl (hg g b d)
  | cb r t => exact h
  | bp o =>
    have e : σ' k = .unit := (hu rfl).elim (fun e => e.trans h.2) (fun e => e)
    exact ⟨h.1, e⟩
  | tup ks =>
    have e : σ' k = .unit := (hu rfl).elim (fun e => e.trans h.2) (fun e => e)
    exact ⟨h.1, e⟩
  | clo f ks =>
    have e : σ' k = .unit := (hu rfl).elim (fun e => e.trans h.2) (fun e => e)
    exact ⟨h.1, e⟩
  | cptr o r t π =>
    have e : σ' k = .unit := (hu rfl).elim (fun e => e.trans h.2) (fun e => e)
    exact ⟨h.1, e⟩
  | view o π =>
    have e : σ' k = σ k := by
      by_cases hp : π.post.isSome = true
      · exact hc hp
      · have hp : π.post = .none := by simpa using hp
        exact (hu (by simp [carr, hp])).elim (fun e => e) fun e => e.trans (h.2 hp).symm
    simpa only [Ok, e] using h
  | ptr o π =>
    have e : σ' k = σ k := by
      by_cases hp : π.post.isSome = true
      · exact hc hp
      · have hp : π.post = .none := by simpa using hp
        exact (hu (by simp [carr, hp])).elim (fun e => e) fun e => e.trans (h.2 hp).symm
    simpa only [Ok, e] using h
  | v d => have e := hc rfl; simpa only [Ok, e] using h
  | box t d => have e := hc rfl; simpa only [Ok, e] using h
  | rp d => have e := hc rfl; simpa only [Ok, e] using h
  | tr o π => have e := hc rfl; simpa only [Ok, e] using h
  | ap o π => have e := hc rfl; simpa only [Ok, e] using h
  | sl o π => have e := hc rfl; simpa only [Ok, e] using h
  | eb o => have e := hc rfl; simpa only [Ok, e] using h
  | ebx o => have e := hc rfl; simpa only [Ok, e] using h
  | fb t => have e := hc rfl; simpa only [Ok, e] using h
theorem Rel.fill {H : GL} (h : Rel C (gf H) σ tmps w) (hg : noGv H = true) : Rel C (gf H) (fill (carried H) (cut (carried H) σ)) tmps w := by
  obtain ⟨val, loc, S, F, h⟩ := h
  refine ⟨val, loc, S, F, { h with ok := fun k => ?_ }⟩
  by_cases hn : gf H k = .none
  · rw [hn]; trivial
  · have hm := gf_mem hn
    refine (h.ok k).sig (fun g b d e => ?_) (fun hc => ?_) (fun hc => ?_)
    · have := List.all_eq_true.1 hg _ hm
      simp only [e] at this
      cases this
    · rw [fill_cut, if_pos (carried_mem hm hc)]
    · rw [fill_cut]
      split
      · exact .inl rfl
      · exact .inr rfl

theorem loopGo_spec {f : GL → Option (PC × Post)} : ∀ {n : Nat} {H : GL} {pc : PC} {q : Post}, loopGo f n H = some (pc, q) →
    ∃ H' pa qa, f H' = some (pa, qa) ∧ noGv H' = true ∧ pc = .loop (carried H') pa ∧ q = { qa with n := none } ∧ (∀ B, qa.n = some B → wk B H' = true) ∧ ∀ {σ : Nat → PV} {tmps : Array Value} {w : World}, Rel C (gf H) σ tmps w → Rel C (gf H') σ tmps w
  | 0, H, pc, q, h => by cases h
  | n + 1, H, pc, q, h => by
    simp only [loopGo] at h
    split at h
    · cases h
    · rename_i hg
      simp only [Bool.not_eq_true, Bool.not_eq_false'] at hg
      split at h
      · cases h
      · rename_i pa qa hf
        split at h
        · rename_i hqn
          simp only [Option.some.injEq, Prod.mk.injEq] at h
          obtain ⟨rfl, rfl⟩ := h
          exact ⟨H, pa, qa, hf, hg, rfl, rfl, fun B hB => (by rw [hqn] at hB; cases hB), fun h => h⟩
        · rename_i B hqn
          split at h
          · rename_i hw
            simp only [Option.some.injEq, Prod.mk.injEq] at h
            obtain ⟨rfl, rfl⟩ := h
            exact ⟨H, pa, qa, hf, hg, rfl, rfl, fun B' hB => (by rw [hqn] at hB; simp only [Option.some.injEq] at hB; subst hB; exact hw), fun h => h⟩
          · split at h
            · rename_i hw
              obtain ⟨H', pa', qa', h1, h2, h3, h4, h5, h6⟩ := loopGo_spec h
              exact ⟨H', pa', qa', h1, h2, h3, h4, h5, fun h => h6 (h.wk hw)⟩
            · cases h

theorem find_filter {l : List (Nat × GL)} {id id' : Nat} (h : id' ≠ id) : (l.filter fun y => !Nat.beq y.1 id).find? (fun y => Nat.beq y.1 id') = l.find? fun y => Nat.beq y.1 id' := by
  induction l with
  | nil => rfl
  | cons x l ih =>
    by_cases hx : x.1 = id'
    · have h1 : Nat.beq x.1 id = false := beq_false.2 (by omega)
      have h2 : Nat.beq x.1 id' = true := beq_iff.2 hx
      simp [List.filter_cons, h1, List.find?_cons, h2]
    · have h2 : Nat.beq x.1 id' = false := beq_false.2 hx
      rw [List.filter_cons, List.find?_cons, h2]
      split
      · rw [List.find?_cons, h2]; exact ih
      · exact ih

theorem comp_ok (hm : C.P.follows .mixedOrders = true) (hI : Good C.P sg I) (n : Nat) : ∀ {c : Code} {live : LV} {G : GL} {pc : PC} {q : Post}, comp C.P sg C.nt c live G = some (pc, q) →
    ∀ {σ σ' : Nat → PV} {e : Ex} {a : Act} {w : World} {Q : Exit → Act → World → Prop}, pc.run I n σ = some (e, σ') → Rel C (gf G) σ a.tmps w → (∀ a' w', PostOk C q e σ' a'.tmps w' → a'.defers = a.defers → Q (toExit e) a' w') → c.wp C.P Q a w := by
  intro c
  induction c with
  | skip =>
    intro live G pc q hc σ σ' e a w Q hrun hrel hQ
    simp only [comp, Option.some.injEq, Prod.mk.injEq] at hc
    obtain ⟨rfl, rfl⟩ := hc
    simp only [PC.run, Option.some.injEq, Prod.mk.injEq] at hrun
    obtain ⟨rfl, rfl⟩ := hrun
    exact wp_skip (hQ a w ⟨G, rfl, hrel⟩ rfl)
  | label l =>
    intro live G pc q hc σ σ' e a w Q hrun hrel hQ
    simp only [comp, Option.some.injEq, Prod.mk.injEq] at hc
    obtain ⟨rfl, rfl⟩ := hc
    simp only [PC.run, Option.some.injEq, Prod.mk.injEq] at hrun
    obtain ⟨rfl, rfl⟩ := hrun
    exact wp_label (hQ a w ⟨G, rfl, hrel⟩ rfl)
  | region id ops draw =>
    intro live G pc q hc σ σ' e a w Q hrun hrel hQ
    refine reg_ok hm hI hc hrun hrel fun a' w' he hp hd => ?_
    subst he
    exact hQ a' w' hp hd
  | seq x y ihx ihy =>
    intro live G pc q hc σ σ' e a w Q hrun hrel hQ
    simp only [comp] at hc
    split at hc
    · cases hc
    · rename_i pa qa hca
      refine wp_seq ?_
      split at hc
      · rename_i hqn
        simp only [Option.some.injEq, Prod.mk.injEq] at hc
        obtain ⟨rfl, rfl⟩ := hc
        refine ihx hca hrun hrel fun a' w' hp hd => ?_
        cases e with
        | n =>
          obtain ⟨H, h1, _⟩ := hp
          simp only [atEx, hqn] at h1
          cases h1
        | x id => exact hQ a' w' hp hd
        | r => exact hQ a' w' hp hd
      · rename_i G1 hqn
        try simp only at hc
        split at hc
        · rename_i pb qb hj
          have hj' : wk G1 (restrict (lvC y live) G1) = true ∧ noGv (restrict (lvC y live) G1) = true ∧ comp C.P sg C.nt y live (restrict (lvC y live) G1) = some (pb, qb) := by
            split at hj
            · cases hj
            · split at hj
              · rename_i hw
                simp only [Bool.and_eq_true] at hw
                exact ⟨hw.1, hw.2, hj⟩
              · cases hj
          obtain ⟨w1, w2, hcb⟩ := hj'
          split at hc
          · rename_i hw
            simp only [Bool.and_eq_true] at hw
            simp only [Option.some.injEq, Prod.mk.injEq] at hc
            obtain ⟨rfl, rfl⟩ := hc
            simp only [PC.run] at hrun
            obtain ⟨⟨e1, σ1⟩, hr1, hr2⟩ := Option.bind_eq_some_iff.1 hrun
            refine ihx hca hr1 hrel fun a' w' hp hd => ?_
            cases e1 with
            | n =>
              obtain ⟨H, h1, h2⟩ := hp
              simp only [atEx, hqn, Option.some.injEq] at h1
              subst h1
              exact ihy hcb hr2 ((h2.wk w1).fill w2) fun a2 w2 hp2 hd2 => hQ a2 w2 (wkP_ok hw.2 hp2) (hd2.trans hd)
            | x id =>
              simp only [Option.some.injEq, Prod.mk.injEq] at hr2
              obtain ⟨rfl, rfl⟩ := hr2
              exact hQ a' w' (wkP_ok hw.1 hp) hd
            | r =>
              simp only [Option.some.injEq, Prod.mk.injEq] at hr2
              obtain ⟨rfl, rfl⟩ := hr2
              exact hQ a' w' (wkP_ok hw.1 hp) hd
          · cases hc
        split at hc
        · cases hc
        · rename_i pb qb hcb
          split at hc
          · rename_i hw
            simp only [Bool.and_eq_true] at hw
            simp only [Option.some.injEq, Prod.mk.injEq] at hc
            obtain ⟨rfl, rfl⟩ := hc
            simp only [PC.run] at hrun
            obtain ⟨⟨e1, σ1⟩, hr1, hr2⟩ := Option.bind_eq_some_iff.1 hrun
            refine ihx hca hr1 hrel fun a' w' hp hd => ?_
            cases e1 with
            | n =>
              obtain ⟨H, h1, h2⟩ := hp
              simp only [atEx, hqn, Option.some.injEq] at h1
              subst h1
              exact ihy hcb hr2 h2 fun a2 w2 hp2 hd2 => hQ a2 w2 (wkP_ok hw.2 hp2) (hd2.trans hd)
            | x id =>
              simp only [Option.some.injEq, Prod.mk.injEq] at hr2
              obtain ⟨rfl, rfl⟩ := hr2
              exact hQ a' w' (wkP_ok hw.1 hp) hd
            | r =>
              simp only [Option.some.injEq, Prod.mk.injEq] at hr2
              obtain ⟨rfl, rfl⟩ := hr2
              exact hQ a' w' (wkP_ok hw.1 hp) hd
          · cases hc
  | cond c x y ihx ihy =>
    intro live G pc q hc σ σ' e a w Q hrun hrel hQ
    simp only [comp] at hc
    split at hc
    · rename_i px pa qa pb qb hpx hca hcb
      split at hc
      · rename_i hw
        simp only [Bool.and_eq_true] at hw
        simp only [Option.some.injEq, Prod.mk.injEq] at hc
        obtain ⟨rfl, rfl⟩ := hc
        obtain ⟨val, loc, S, F, h⟩ := hrel
        obtain ⟨_, cs, hf, hR⟩ := plainOf_ok h hpx []
        obtain ⟨b, h1, h2⟩ := R.isBool hf hR
        simp only [PC.run, h2, PV.toBool] at hrun
        refine wp_cond (t := b) (by rw [evalOp_eq]; exact h1) ?_
        cases b with
        | true => exact ihx hca hrun ⟨_, _, _, _, h⟩ fun a' w' hp hd => hQ a' w' (wkP_ok hw.1 hp) hd
        | false => exact ihy hcb hrun ⟨_, _, _, _, h⟩ fun a' w' hp hd => hQ a' w' (wkP_ok hw.2 hp) hd
      · cases hc
    · cases hc
  | block id x ihx =>
    intro live G pc q hc σ σ' e a w Q hrun hrel hQ
    simp only [comp] at hc
    split at hc
    · cases hc
    · rename_i pa qa hca
      refine wp_block ?_
      split at hc
      · rename_i hfind
        simp only [Option.some.injEq, Prod.mk.injEq] at hc
        obtain ⟨rfl, rfl⟩ := hc
        refine ihx hca hrun hrel fun a' w' hp hd => ?_
        by_cases hx : e = .x id
        · exfalso
          subst hx
          obtain ⟨H, h1, _⟩ := hp
          simp only [atEx, hfind, Option.map_none] at h1
          cases h1
        · have := hQ a' w' hp hd
          cases e with
          | n => exact this
          | r => exact this
          | x id' =>
            have hne : id' ≠ id := fun e => hx (by rw [e])
            simp only [toExit, Exit.inBlock, hne, if_false]
            exact this
      · rename_i i H hfind
        split at hc
        · cases hc
        · rename_i n0 hn0
          try simp only at hc
          split at hc
          · rename_i hw
            simp only [Bool.and_eq_true] at hw
            obtain ⟨⟨⟨w1, w2⟩, w3⟩, w4⟩ := hw
            simp only [Option.some.injEq, Prod.mk.injEq] at hc
            obtain ⟨rfl, rfl⟩ := hc
            simp only [PC.run] at hrun
            obtain ⟨⟨e1, σ1⟩, hr1, hr2⟩ := Option.map_eq_some_iff.1 hrun
            simp only at hr2
            refine ihx hca hr1 hrel fun a' w' hp hd => ?_
            obtain ⟨H', h1, h2⟩ := hp
            cases e1 with
            | n =>
              simp only [or_true, if_true, Prod.mk.injEq] at hr2
              obtain ⟨rfl, rfl⟩ := hr2
              obtain ⟨B, h3, h4⟩ := wkO_ok w1 h1 h2
              simp only [Option.some.injEq] at h3
              subst h3
              exact hQ a' w' ⟨_, rfl, (h4.wk w3).fill w4⟩ hd
            | r =>
              simp only [reduceCtorEq, or_self, if_false, Prod.mk.injEq] at hr2
              obtain ⟨rfl, rfl⟩ := hr2
              exact hQ a' w' ⟨H', h1, h2⟩ hd
            | x id' =>
              by_cases hx : id' = id
              · subst hx
                simp only [true_or, if_true, Prod.mk.injEq] at hr2
                obtain ⟨rfl, rfl⟩ := hr2
                simp only [atEx, hfind, Option.map_some, Option.some.injEq] at h1
                subst h1
                simp only [toExit, Exit.inBlock, if_true]
                exact hQ a' w' ⟨_, rfl, ((h2.wk w2).wk w3).fill w4⟩ hd
              · simp only [Ex.x.injEq, hx, reduceCtorEq, or_self, if_false, Prod.mk.injEq] at hr2
                obtain ⟨rfl, rfl⟩ := hr2
                simp only [toExit, Exit.inBlock, hx, if_false]
                refine hQ a' w' ⟨H', ?_, h2⟩ hd
                simp only [atEx] at h1 ⊢
                rw [find_filter hx]; exact h1
          · cases hc
  | loop x ihx =>
    intro live G pc q hc σ σ' e a w Q hrun hrel hQ
    simp only [comp] at hc
    split at hc
    · rename_i hw
      obtain ⟨H, pa, qa, h1, h2, rfl, rfl, h5, h6⟩ := loopGo_spec (C := C) hc
      have hrel := h6 (hrel.wk hw)
      simp only [PC.run] at hrun
      refine wp_loop_rounds n ?_
      have key : ∀ (m : Nat) {σ0 : Nat → PV} {a0 : Act} {w0 : World}, a0.defers = a.defers → Rel C (gf H) σ0 a0.tmps w0 → loopRun (fun σ => pa.run I n σ) (carried H) m (cut (carried H) σ0) = some (e, σ') → Code.rounds C.P x Q m a0 w0 := by
        intro m
        induction m with
        | zero => intro σ0 a0 w0 _ _ hr; cases hr
        | succ m ih =>
          intro σ0 a0 w0 hd0 hrel0 hr
          simp only [loopRun] at hr
          obtain ⟨⟨e1, σ1⟩, hr1, hr2⟩ := Option.bind_eq_some_iff.1 hr
          rw [rounds_succ]
          refine ihx h1 hr1 (hrel0.fill h2) fun a' w' hp hd => ?_
          cases e1 with
          | n =>
            obtain ⟨B, h7, h8⟩ := hp
            simp only [atEx] at h7
            exact ih (hd.trans hd0) (h8.wk (h5 B h7)) hr2
          | x id =>
            simp only [Option.some.injEq, Prod.mk.injEq] at hr2
            obtain ⟨rfl, rfl⟩ := hr2
            exact hQ a' w' hp (hd.trans hd0)
          | r =>
            simp only [Option.some.injEq, Prod.mk.injEq] at hr2
            obtain ⟨rfl, rfl⟩ := hr2
            exact hQ a' w' hp (hd.trans hd0)
      exact key n rfl hrel hrun
    · cases hc
  | exit id =>
    intro live G pc q hc σ σ' e a w Q hrun hrel hQ
    simp only [comp, Option.some.injEq, Prod.mk.injEq] at hc
    obtain ⟨rfl, rfl⟩ := hc
    simp only [PC.run, Option.some.injEq, Prod.mk.injEq] at hrun
    obtain ⟨rfl, rfl⟩ := hrun
    exact wp_exit (hQ a w ⟨G, by simp [atEx], hrel⟩ rfl)
  | ret =>
    intro live G pc q hc σ σ' e a w Q hrun hrel hQ
    simp only [comp, Option.some.injEq] at hc
    unfold compRet at hc
    split at hc
    · simp only [Prod.mk.injEq] at hc
      obtain ⟨rfl, rfl⟩ := hc
      simp only [PC.run, Option.some.injEq, Prod.mk.injEq] at hrun
      obtain ⟨rfl, rfl⟩ := hrun
      exact wp_ret (hQ a w ⟨G, rfl, hrel⟩ rfl)
    · simp only [Prod.mk.injEq] at hc
      obtain ⟨rfl, rfl⟩ := hc
      have hσ : e = .r ∧ σ' = preRun (retMS C.P (gf G) live.r) σ := by
        have e1 : regRun I [retGS G (retMS C.P (gf G) live.r)] σ = some (preRun (retMS C.P (gf G) live.r) σ) := by
          simp only [regRun, GS.run, retGS, SR.run, List.all_nil, if_true, Option.bind_some]
          rfl
        simp only [PC.run, e1, Option.map_some, Option.bind_some, Option.some.injEq, Prod.mk.injEq] at hrun
        exact ⟨hrun.1.symm, hrun.2.symm⟩
      obtain ⟨rfl, rfl⟩ := hσ
      obtain ⟨val, loc, S, F, h⟩ := hrel
      obtain ⟨S', F', h'⟩ := retMS_ok live.r h
      refine wp_ret (hQ a w ⟨_, rfl, ?_⟩ rfl)
      refine Rel.tabs ⟨val, loc, S', F', h'⟩ (foldl_keys _ _ (fun k hk => mem_dedup (List.mem_append_right _ ?_)) fun m hm k hk => mem_dedup (List.mem_append_left _ (List.mem_flatMap.2 ⟨m, hm, hk⟩)))
      by_cases h2 : k ∈ keysOf G
      · exact h2
      · exact absurd (gf_none h2) hk
  | scope x ihx =>
    intro live G pc q hc σ σ' e a w Q hrun hrel hQ
    simp only [comp] at hc
    refine wp_scope_straight (ihx hc hrun hrel fun a' w' hp hd => ?_)
    have := hQ a' w' hp hd
    cases e <;> exact this
  | _ =>
    intro live G pc q hc
    simp [comp] at hc
end
end Go.Rsc
