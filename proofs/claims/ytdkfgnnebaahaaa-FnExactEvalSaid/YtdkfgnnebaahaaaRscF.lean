/- What a step makes: the frame behind it. No conditions. -/
import Derived.Test.YtdkfgnnebaahaaaRscE
namespace Go.Rsc
open Go.RowKit
set_option linter.unusedVariables false
set_option linter.unusedSimpArgs false

section
variable {P : Program} {w w' : World} {F F' : Set} {Γ : Nat → D} {σ : Nat → PV} {val : Nat → Value} {loc : Nat → Nat} {S : Nat → Set} {C : Cx} {tmps : Array Value}
variable {d d' : SD} {cs : List Value} {p : PV} {T T' : Set}

theorem put_getD (tmps : Array Value) {t : Nat} (ht : t < tmps.size) (v : Value) (i : Nat) : (tmps.setIfInBounds t v).getD i undef = if i = t then v else tmps.getD i undef := by
  simp only [Array.getD_eq_getD_getElem?, Array.getElem?_setIfInBounds]
  by_cases h : t = i
  · subst h; simp [ht]
  · simp [h, Ne.symm h]

def noneOf (ks : List Nat) : List (Nat × D) := ks.map fun k => (k, D.none)
theorem look_noneOf (ks : List Nat) (k : Nat) : look (noneOf ks) k = if k ∈ ks then some .none else none := by
  induction ks with
  | nil => simp [noneOf, look_nil]
  | cons j ks ih =>
    simp only [noneOf, List.map_cons] at ih ⊢
    rw [look_cons]
    by_cases h : k = j
    · subst h; simp
    · rw [if_neg h, ih]; simp [h]

/-- A value in a temporary, made of what stood under some keys and of new memory. -/
theorem RelX.make (h : RelX C Γ σ val loc S F tmps w) {t : Nat} (ht : t < C.nt) {ks : List Nat} (hks : ∀ k ∈ ks, k % 64 = 63) {v : Value}
    (hT : ∀ b, T b → (∃ k ∈ ks, S k b) ∨ (w.heap.size ≤ b ∧ b < w'.heap.size))
    (hw : ∀ b, b < w.heap.size → (∀ k ∈ ks, ¬ S k b) → w'.heap[b]? = w.heap[b]?) (hos : w'.os = w.os) (htape : w'.tape = w.tape) (hout : w'.output = w.output) (hsize : w.heap.size ≤ w'.heap.size)
    (hok : ∃ cs, Fits d v cs ∧ R C.P w' F d cs p T) :
    RelX C (ap Γ ((tk t, .v d) :: noneOf ks) [tk t] []) (updF σ (tk t) p) (updF val (tk t) v) loc (fun k => if k = tk t then T else if k ∈ ks then Set.none else S k) F (tmps.setIfInBounds t v) w' := by
  have hnot : ∀ i, tk i ∉ ks := fun i hi => by have := hks _ hi; unfold tk at this; omega
  have lk : ∀ {k : Nat} {x : D}, look ((tk t, .v d) :: noneOf ks) k = some x → (k = tk t ∧ x = .v d) ∨ (k ≠ tk t ∧ k ∈ ks ∧ x = .none) := by
    intro k x hx
    rw [look_cons, look_noneOf] at hx
    split at hx
    · rename_i e; exact .inl ⟨e, by simpa using hx.symm⟩
    · rename_i e
      split at hx
      · rename_i e2; exact .inr ⟨e, e2, by simpa using hx.symm⟩
      · cases hx
  have ne : ∀ {k : Nat}, look ((tk t, .v d) :: noneOf ks) k = none → k ≠ tk t ∧ k ∉ ks := by
    intro k hx
    rw [look_cons, look_noneOf] at hx
    refine ⟨fun e => by simp [e] at hx, fun e => ?_⟩
    split at hx
    · cases hx
    · simp [e] at hx
  have hl : ∀ k ∈ ks, look ((tk t, .v d) :: noneOf ks) k = some .none := fun k hk => by
    rw [look_cons, look_noneOf, if_neg (fun (e : k = tk t) => hnot t (e ▸ hk)), if_pos hk]
  have hsz : ∀ b, T b → b < w'.heap.size := fun b hb => by
    rcases hT b hb with ⟨k, _, hs⟩ | ⟨_, hs⟩
    · exact Nat.lt_of_lt_of_le (h.sz k b hs) hsize
    · exact hs
  refine h.app ((tk t, .v d) :: noneOf ks) [tk t] [] (fun k hx => ?_) (fun k x hx hm => ?_) (fun o x _ hm => by simp [mem_nil] at hm) (fun k hk6 => ⟨updF_ne _ _ (fun e => by rw [e] at hk6; unfold tk at hk6; omega), rfl⟩) (by simpa using h.n) (fun i => ?_)
    (fun b hb => hb) (fun b hb => hb) (fun b hb => Nat.lt_of_lt_of_le (h.fz b hb) hsize) (fun b hb hs => hw b hb fun k hk => hs k _ (hl k hk)) hos htape hout hsize (fun k x b hx hs => ?_) (fun k x b hx hs => ?_) (fun k x k' x' b hx hx' hs hs' => ?_) (fun k x b hx hs hf => ?_) (fun k x hx => ?_)
  · obtain ⟨e1, e2⟩ := ne hx
    exact ⟨updF_ne _ _ e1, updF_ne _ _ e1, rfl, by simp [e1, e2]⟩
  · rcases lk hx with ⟨rfl, rfl⟩ | ⟨e1, e2, rfl⟩
    · simp [mem_cons] at hm
    · exact ⟨updF_ne _ _ e1, rfl⟩
  · rw [put_getD _ (by rw [h.n]; exact ht)]
    by_cases e : i = t
    · subst e; rw [updF_same]; simp
    · rw [updF_ne _ _ (fun e2 => e (tk_inj e2)), if_neg e]; exact h.tm i
  · rcases lk hx with ⟨rfl, rfl⟩ | ⟨e1, e2, rfl⟩
    · simp only [if_true] at hs
      rcases hT b hs with ⟨k, hk, hs⟩ | ⟨hs, _⟩
      · exact .inl ⟨k, _, hl k hk, hs⟩
      · exact .inr hs
    · simp only [e1, if_false, e2, if_true] at hs
      exact hs.elim
  · rcases lk hx with ⟨rfl, rfl⟩ | ⟨e1, e2, rfl⟩
    · simp only [if_true] at hs
      exact hsz b hs
    · simp only [e1, if_false, e2, if_true] at hs
      exact hs.elim
  · rcases lk hx with ⟨rfl, rfl⟩ | ⟨e1, e2, rfl⟩
    · rcases lk hx' with ⟨rfl, rfl⟩ | ⟨e1', e2', rfl⟩
      · rfl
      · simp only [e1', if_false, e2', if_true] at hs'
        exact hs'.elim
    · simp only [e1, if_false, e2, if_true] at hs
      exact hs.elim
  · rcases lk hx with ⟨rfl, rfl⟩ | ⟨e1, e2, rfl⟩
    · simp only [if_true] at hs
      rcases hT b hs with ⟨k, hk, hs⟩ | ⟨hs, _⟩
      · exact h.sF k b hs hf
      · have := h.fz b hf; omega
    · simp only [e1, if_false, e2, if_true] at hs
      exact hs.elim
  · rcases lk hx with ⟨rfl, rfl⟩ | ⟨e1, e2, rfl⟩
    · obtain ⟨cs, h1, h2⟩ := hok
      exact ⟨cs, by rw [updF_same]; exact h1, by rw [updF_same]; simpa using h2⟩
    · trivial

/-- Something that owns nothing, in a temporary. -/
theorem RelX.set1 (h : RelX C Γ σ val loc S F tmps w) {t : Nat} (ht : t < C.nt) {x : D} {v : Value}
    (hx : Ok C.P w F (ap Γ [(tk t, x)] [tk t] []) (updF σ (tk t) p) (updF val (tk t) v) loc (updF S (tk t) Set.none) (tk t) x) :
    RelX C (ap Γ [(tk t, x)] [tk t] []) (updF σ (tk t) p) (updF val (tk t) v) loc (updF S (tk t) Set.none) F (tmps.setIfInBounds t v) w := by
  have lk : ∀ {k : Nat} {y : D}, look [(tk t, x)] k = some y → k = tk t ∧ y = x := by
    intro k y hx
    rw [look_cons, look_nil] at hx
    split at hx
    · rename_i e; exact ⟨e, by simpa using hx.symm⟩
    · cases hx
  have ne : ∀ {k : Nat}, look [(tk t, x)] k = none → k ≠ tk t := by
    intro k hx e
    subst e
    rw [look_cons] at hx
    simp at hx
  refine h.app [(tk t, x)] [tk t] [] (fun k hx => ⟨updF_ne _ _ (ne hx), updF_ne _ _ (ne hx), rfl, updF_ne _ _ (ne hx)⟩) (fun k y hx hm => ?_) (fun o y _ hm => by simp [mem_nil] at hm) (fun k hk6 => ⟨updF_ne _ _ (fun e => by rw [e] at hk6; unfold tk at hk6; omega), rfl⟩) (by simpa using h.n) (fun i => ?_)
    (fun b hb => hb) (fun b hb => hb) h.fz (fun b _ _ => rfl) rfl rfl rfl (Nat.le_refl _) (fun k y b hx hs => ?_) (fun k y b hx hs => ?_) (fun k y k' y' b hx hx' hs _ => ?_) (fun k y b hx hs => ?_) (fun k y hy => ?_)
  · obtain ⟨rfl, rfl⟩ := lk hx
    simp [mem_cons] at hm
  · rw [put_getD _ (by rw [h.n]; exact ht)]
    by_cases e : i = t
    · subst e; rw [updF_same]; simp
    · rw [updF_ne _ _ (fun e2 => e (tk_inj e2)), if_neg e]; exact h.tm i
  all_goals first
    | (obtain ⟨rfl, rfl⟩ := lk hx; rw [updF_same] at hs; exact hs.elim)
    | (obtain ⟨rfl, rfl⟩ := lk hy; exact hx)

/-- What is known of a key holds of a temporary that holds the same. -/
theorem RelX.copy (h : RelX C Γ σ val loc S F tmps w) {t : Nat} (ht : t < C.nt) {k : Nat} {x : D} (hx : Ok C.P w F Γ σ val loc S k x) (hr : tk t ∉ x.roots) (hd : tk t ∉ x.deep) (hw : tk t ∉ x.weak) (ho : x.owns = false) :
    RelX C (ap Γ [(tk t, x)] [tk t] []) (updF σ (tk t) (σ k)) (updF val (tk t) (val k)) loc (updF S (tk t) Set.none) F (tmps.setIfInBounds t (val k)) w := by
  refine h.set1 ht (hx.keep (updF_same _ _ _) (updF_same _ _ _) (fun e => by rw [ho] at e; cases e) (fun _ h => h) (fun _ _ => rfl) (fun o ho => ?_) (fun o ho => ?_) (fun o ho => ?_))
  · have ne : o ≠ tk t := fun e => hr (e ▸ ho)
    refine ⟨fun hroot => ?_, updF_ne _ _ ne, rfl, fun _ hs => ⟨by rw [updF_ne _ _ ne]; exact hs, rfl⟩⟩
    unfold ap
    rw [look_cons, look_nil, if_neg ne]
    cases hΓ : Γ o <;> simp [hΓ, D.isRoot] at hroot <;> simp [D.roots, D.deep, D.weak]
  · have ne : o ≠ tk t := fun e => hd (e ▸ ho)
    exact ⟨updF_ne _ _ ne, fun b hb => by rw [updF_ne _ _ ne]; exact hb, fun _ _ => rfl⟩
  · have ne : o ≠ tk t := fun e => hw (e ▸ ho)
    exact ⟨updF_ne _ _ ne, rfl⟩
end
end Go.Rsc
