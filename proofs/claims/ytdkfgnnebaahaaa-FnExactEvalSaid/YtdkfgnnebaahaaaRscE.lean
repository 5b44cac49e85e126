/- Values may be taken: what was known of them holds under another key. No conditions. -/
import Derived.Test.YtdkfgnnebaahaaaRscD
namespace Go.Rsc
open Go.RowKit
set_option linter.unusedVariables false
set_option linter.unusedSimpArgs false

theorem look_nil (k : Nat) : look [] k = none := rfl
theorem look_cons (j : Nat) (d : D) (U : List (Nat × D)) (k : Nat) : look ((j, d) :: U) k = if k = j then some d else look U k := by
  rw [show look ((j, d) :: U) k = if Nat.beq k j = true then some d else look U k from rfl]
  by_cases h : k = j
  · subst h; simp
  · have : Nat.beq k j = false := by
      cases hb : Nat.beq k j with
      | false => rfl
      | true => exact absurd (Nat.eq_of_beq_eq_true hb) h
    rw [this]; simp [h]
theorem lookS_nil (k : Nat) : lookS [] k = none := rfl
theorem lookS_cons (j : Nat) (d : PX) (U : List (Nat × PX)) (k : Nat) : lookS ((j, d) :: U) k = if k = j then some d else lookS U k := by
  rw [show lookS ((j, d) :: U) k = if Nat.beq k j = true then some d else lookS U k from rfl]
  by_cases h : k = j
  · subst h; simp
  · have : Nat.beq k j = false := by
      cases hb : Nat.beq k j with
      | false => rfl
      | true => exact absurd (Nat.eq_of_beq_eq_true hb) h
    rw [this]; simp [h]
theorem beq_iff {a b : Nat} : Nat.beq a b = true ↔ a = b := ⟨Nat.eq_of_beq_eq_true, fun h => by subst h; simp⟩
theorem beq_false {a b : Nat} : Nat.beq a b = false ↔ a ≠ b := by
  cases h : Nat.beq a b with
  | true => simp [beq_iff.1 h]
  | false => simp; intro e; rw [beq_iff.2 e] at h; cases h
theorem mem_iff {k : Nat} {l : List Nat} : mem k l = true ↔ k ∈ l := by
  unfold mem
  simp only [List.any_eq_true]
  exact ⟨fun ⟨x, hx, hb⟩ => by rw [beq_iff] at hb; subst hb; exact hx, fun h => ⟨k, h, by simp⟩⟩
theorem mem_nil (k : Nat) : mem k [] = false := rfl
theorem mem_cons (k j : Nat) (l : List Nat) : mem k (j :: l) = (decide (k = j) || mem k l) := by
  unfold mem
  simp only [List.any_cons]
  congr 1
  by_cases h : k = j
  · subst h; simp
  · simp only [h, decide_false]; exact beq_false.2 h

def updF {α : Type} (f : Nat → α) (k : Nat) (v : α) : Nat → α := fun j => if j = k then v else f j
theorem updF_same {α : Type} (f : Nat → α) (k : Nat) (v : α) : updF f k v k = v := by simp [updF]
theorem updF_ne {α : Type} (f : Nat → α) {k j : Nat} (v : α) (h : j ≠ k) : updF f k v j = f j := by simp [updF, h]

def evalOp (tmps : Array Value) : Operand → Value
  | .tmp t => tmps.getD t undef
  | .const v => v
  | .global g => .pointer (some ⟨g, 0, none⟩)
  | .func f => .func (.func f) #[] #[]
theorem evalOp_eq (a : Act) (x : Operand) : a.eval x = evalOp a.tmps x := by cases x <;> rfl

section
variable {P : Program} {w w' : World} {F F' : Set} {Γ : Nat → D} {σ : Nat → PV} {val : Nat → Value} {loc : Nat → Nat} {S : Nat → Set} {C : Cx} {tmps : Array Value}
variable {d d' : SD} {cs : List Value} {p : PV} {T T' : Set}

theorem R.ofPlain (h : R P w F d cs p T) : d.plain = true → ∀ T' : Set, R P w F d cs p T' := by
  induction h with
  | int => intros; exact .int ..
  | bool => intros; exact .bool ..
  | str => intros; exact .str ..
  | dead n cs p S h => intro hp; simp [SD.plain] at hp
  | bor e A n c ps S css h1 h2 h3 h4 h5 ih => intro _ T'; exact .bor e A n c ps T' css h1 h2 h3 h4 h5
  | nl => intros; exact .nl _
  | onil => intro hp; simp [SD.plain] at hp
  | own => intro hp; simp [SD.plain] at hp
  | mz => intros; exact .mz _
  | mp => intro hp; simp [SD.plain] at hp
  | sb => intro hp; simp [SD.plain] at hp
  | inil => intros; exact .inil _
  | isome => intros; exact .isome ..
  | np => intros; exact .np _
  | fnil => intros; exact .fnil ..
  | fp t b arr p S h1 h2 h3 ih => intro _ T'; exact .fp t b arr p T' h1 h2 h3
  | frec b c s u pu arrV pV S h0 h1 h2 h3 h4 h5 h6 h7 ih1 ih2 => intro _ T'; exact .frec b c s u pu arrV pV T' h0 h1 h2 h3 h4 h5 h6 h7
  | sn => intros; exact .sn _
  | sc d ds c cs p ps S S1 S2 _ _ h3 h4 h5 ih1 ih2 =>
    intro hp T'
    simp only [SD.plain, Bool.and_eq_true] at hp
    exact .sc d ds c cs p ps T' Set.none Set.none (ih1 hp.1 _) (ih2 hp.2 _) (fun _ h => h.elim) (fun _ h => h.elim) (fun _ h _ => h)

theorem R.coe (h : R P w F d cs p T) : ∀ {d' : SD}, Rsc.coe d d' = true → R P w F d' cs p T := by
  induction h with
  | nl S =>
    intro d' hc
    cases d' <;> simp [Rsc.coe] at hc
    · exact .bor _ none 0 0 [] _ (fun _ => []) rfl (Nat.le_refl _) (fun j hj => by omega) (fun j hj => by omega) (fun j p hp => by simp at hp)
    · exact .nl _
    · exact .onil ..
  | sc d ds c cs p ps S S1 S2 h1 h2 h3 h4 h5 ih1 ih2 =>
    intro d' hc
    cases d' <;> simp [Rsc.coe] at hc
    exact .sc _ _ c cs p ps S S1 S2 (ih1 hc.1) (ih2 hc.2) h3 h4 h5
  | int => intro d' hc; cases d' <;> simp [Rsc.coe] at hc; subst hc; exact .int ..
  | bool => intro d' hc; cases d' <;> simp [Rsc.coe] at hc; exact .bool ..
  | str => intro d' hc; cases d' <;> simp [Rsc.coe] at hc; exact .str ..
  | dead n cs p S h => intro d' hc; cases d' <;> simp [Rsc.coe] at hc; subst hc; exact .dead _ _ _ _ h
  | bor e A n c ps S css h1 h2 h3 h4 h5 ih => intro d' hc; cases d' <;> simp [Rsc.coe] at hc; subst hc; exact .bor e A n c ps S css h1 h2 h3 h4 h5
  | onil => intro d' hc; cases d' <;> simp [Rsc.coe] at hc; obtain ⟨rfl, rfl⟩ := hc; exact .onil ..
  | own e m b n c arr ps S Ss h1 h2 h3 h4 h5 h6 h7 h8 h9 h10 h11 ih => intro d' hc; cases d' <;> simp [Rsc.coe] at hc; obtain ⟨rfl, rfl⟩ := hc; exact .own e m b n c arr ps S Ss h1 h2 h3 h4 h5 h6 h7 h8 h9 h10 h11
  | sn => intro d' hc; cases d' <;> simp [Rsc.coe] at hc; exact .sn _
  | mz => intro d' hc; cases d' <;> simp [Rsc.coe] at hc; exact .mz _
  | mp vb b es clk ps S h1 h2 h3 => intro d' hc; cases d' <;> simp [Rsc.coe] at hc; subst hc; exact .mp vb b es clk ps S h1 h2 h3
  | sb e b n c arr fr ps S h1 h2 h3 h4 h5 h6 h7 h8 h9 => intro d' hc; cases d' <;> simp [Rsc.coe] at hc; subst hc; exact .sb e b n c arr fr ps S h1 h2 h3 h4 h5 h6 h7 h8 h9
  | inil => intro d' hc; cases d' <;> simp [Rsc.coe] at hc; exact .inil _
  | isome => intro d' hc; cases d' <;> simp [Rsc.coe] at hc; exact .isome ..
  | np S =>
    intro d' hc
    cases d' <;> simp [Rsc.coe] at hc
    · exact .np _
    · exact .fnil ..
  | fnil => intro d' hc; cases d' <;> simp [Rsc.coe] at hc; subst hc; exact .fnil ..
  | fp t b arr p S h1 h2 h3 ih => intro d' hc; cases d' <;> simp [Rsc.coe] at hc; subst hc; exact .fp t b arr p S h1 h2 h3
  | frec b c s u pu arrV pV S h0 h1 h2 h3 h4 h5 h6 h7 ih1 ih2 => intro d' hc; cases d' <;> simp [Rsc.coe] at hc; subst hc; exact .frec b c s u pu arrV pV S h0 h1 h2 h3 h4 h5 h6 h7

theorem coe_sz : ∀ {d d' : SD}, coe d d' = true → d'.sz = d.sz
  | .sc a b, d', h => by
    cases d' <;> simp [coe] at h
    simp only [SD.sz, coe_sz h.1, coe_sz h.2]
  | .nl, d', h | .np, d', h => by cases d' <;> simp [coe] at h <;> rfl
  | .int _, d', h | .bool, d', h | .str, d', h | .bor _, d', h | .own _ _, d', h | .mz, d', h | .mp _, d', h | .sb _, d', h | .ifc, d', h | .fp _, d', h | .sn, d', h | .dead _, d', h => by cases d' <;> simp [coe] at h <;> simp_all [SD.sz]
theorem coe_isAgg {d d' : SD} (h : coe d d' = true) : d'.isAgg = d.isAgg := by
  cases d <;> cases d' <;> simp [coe] at h <;> rfl
theorem Fits.coe {v : Value} (h : Fits d v cs) (hc : Rsc.coe d d' = true) : Fits d' v cs := by
  unfold Fits at *
  rw [coe_isAgg hc]
  exact h

theorem R.trunc {e : TypeId} {m : Bool} {A : Option Addr} {n c : Nat} {ps : List PV} (h : R P w F (.own e m) [.slice A n c] (.list ps) T) {k : Nat} (hk : k ≤ n) : R P w F (.own e m) [.slice A k c] (.list (ps.take k)) T := by
  cases h with
  | onil => simp at hk; subst hk; simpa using R.onil e m T
  | own _ _ b _ _ arr _ _ Ss h1 h2 h3 h4 h5 h6 h7 h8 h9 h10 h11 =>
    refine .own e m b k c arr _ T Ss h1 (by omega) h3 h4 (by rw [List.length_take]; omega) h6 h7 h8 h9 h10 (fun j p hp => h11 j p ?_)
    rw [List.getElem?_take] at hp
    split at hp
    · exact hp
    · cases hp

/-- What is not a struct is one cell. -/
theorem R.one (h : R P w F d cs p T) (ha : d.isAgg = false) (hd : hasDead d = false) : ∃ x, cs = [x] ∧ (∀ c, x ≠ .agg c) ∧ x.cells = #[x] := by
  cases h <;> simp [SD.isAgg, hasDead] at ha hd <;> exact ⟨_, rfl, fun c => by simp, rfl⟩
theorem Fits.cells_eq {v : Value} (h : Fits d v cs) (hr : R P w F d cs p T) (hd : hasDead d = false) : v.cells.toList = cs := by
  rcases h with ⟨_, rfl⟩ | ⟨ha, rfl⟩
  · simp [Value.cells]
  · obtain ⟨x, e, h1, h2⟩ := hr.one ha hd
    simp only [List.cons.injEq, and_true] at e
    subst e
    rw [h2]

/-- From the key's own facts: its cells. -/
theorem RelX.rootR (h : RelX C Γ σ val loc S F tmps w) {o : Nat} {d : SD} {cs : List Value} {base : Option Nat} (hr : Root w Γ val loc S o d cs base) :
    ∃ T, R C.P w F d cs (σ o) T ∧ (∀ b, T b → S o b ∧ ∀ l, base = some l → b ≠ l) := by
  have hk := h.ok o
  rcases hr with ⟨e, hf, rfl⟩ | ⟨t, arr, e, hb, hs, rfl, rfl⟩
  · rw [e] at hk
    obtain ⟨cs', hf', hr'⟩ := hk
    have : cs' = cs := by
      rcases hf with ⟨a1, a2⟩ | ⟨a1, a2⟩ <;> rcases hf' with ⟨b1, b2⟩ | ⟨b1, b2⟩ <;> simp_all
    subst this
    exact ⟨S o, hr', fun b hb => ⟨hb, fun l hl => by cases hl⟩⟩
  · rw [e] at hk
    obtain ⟨arr', T, h1, h2, h3, h4⟩ := hk
    rw [hb] at h1
    simp only [Option.some.injEq, Obj.cells.injEq, and_true] at h1
    subst h1
    exact ⟨T, h4, fun b hb => ⟨(h3 b hb).1, fun l hl => by cases hl; exact (h3 b hb).2⟩⟩

theorem constOf_R {c : Value} {px : PX} (h : constOf c = some (d, px)) (rs : List PV) : Fits d c [c] ∧ R P w F d [c] (px.eval σ rs) T := by
  unfold constOf at h
  split at h <;> simp only [Option.some.injEq, Prod.mk.injEq, reduceCtorEq] at h
  · obtain ⟨rfl, rfl⟩ := h; exact ⟨.inr ⟨rfl, rfl⟩, .int ..⟩
  · obtain ⟨rfl, rfl⟩ := h; exact ⟨.inr ⟨rfl, rfl⟩, .bool ..⟩
  · obtain ⟨rfl, rfl⟩ := h; exact ⟨.inr ⟨rfl, rfl⟩, .str ..⟩
  · obtain ⟨rfl, rfl⟩ := h; exact ⟨.inr ⟨rfl, rfl⟩, .nl _⟩
  · obtain ⟨rfl, rfl⟩ := h; exact ⟨.inr ⟨rfl, rfl⟩, .np _⟩

theorem setAll_one (σ : Nat → PV) (rs : List PV) (k : Nat) (x : PX) : setAll σ rs [(k, x)] = updF σ k (x.eval σ rs) := by
  funext j
  unfold setAll updF
  rw [lookS_cons, lookS_nil]
  split <;> rename_i h <;> split at h <;> simp_all
theorem setAll_two (σ : Nat → PV) (rs : List PV) (k k' : Nat) (x y : PX) : setAll σ rs [(k, x), (k', y)] = updF (updF σ k' (y.eval σ rs)) k (x.eval σ rs) := by
  funext j
  unfold setAll updF
  rw [lookS_cons, lookS_cons, lookS_nil]
  by_cases h1 : j = k
  · simp [h1]
  · by_cases h2 : j = k'
    · subst h2; simp [h1]
    · simp [h1, h2]

theorem ap_at {U : List (Nat × D)} {kw so : List Nat} {k : Nat} {x : D} (h : look U k = some x) : ap Γ U kw so k = x := by unfold ap; simp [h]

/-- A value that owns nothing, under a key of one's own. -/
theorem RelX.newKey (h : RelX C Γ σ val loc S F tmps w) {kv : Nat} (hk : ∀ i, kv ≠ tk i) (hp : kv % 64 ≠ 62) {v : Value} (hok : ∃ cs, Fits d v cs ∧ R C.P w F d cs p Set.none) :
    RelX C (ap Γ [(kv, .v d)] [kv] []) (updF σ kv p) (updF val kv v) loc (updF S kv Set.none) F tmps w := by
  have lk : ∀ {k : Nat} {x : D}, look [(kv, D.v d)] k = some x → k = kv ∧ x = .v d := by
    intro k x hx
    rw [look_cons, look_nil] at hx
    split at hx
    · rename_i e; exact ⟨e, by simpa using hx.symm⟩
    · cases hx
  have ne : ∀ {k : Nat}, look [(kv, D.v d)] k = none → k ≠ kv := by
    intro k hx e
    subst e
    rw [look_cons] at hx
    simp at hx
  refine h.app [(kv, .v d)] [kv] [] (fun k hx => ⟨updF_ne _ _ (ne hx), updF_ne _ _ (ne hx), rfl, updF_ne _ _ (ne hx)⟩) (fun k x hx hm => ?_) (fun o x _ hm => by simp [mem_nil] at hm) (fun k hk6 => ⟨updF_ne _ _ (fun e => hp (e ▸ hk6)), rfl⟩) h.n
    (fun i => by rw [updF_ne _ _ (fun e => hk i e.symm)]; exact h.tm i) (fun b hb => hb) (fun b hb => hb) h.fz (fun b _ _ => rfl) rfl rfl rfl (Nat.le_refl _) (fun k x b hx hs => ?_) (fun k x b hx hs => ?_) (fun k x k' x' b hx hx' hs _ => ?_) (fun k x b hx hs => ?_) (fun k x hx => ?_)
  · obtain ⟨rfl, rfl⟩ := lk hx
    simp [mem_cons] at hm
  · obtain ⟨rfl, rfl⟩ := lk hx
    rw [updF_same] at hs
    exact hs.elim
  · obtain ⟨rfl, rfl⟩ := lk hx
    rw [updF_same] at hs
    exact hs.elim
  · obtain ⟨rfl, rfl⟩ := lk hx
    rw [updF_same] at hs
    exact hs.elim
  · obtain ⟨rfl, rfl⟩ := lk hx
    rw [updF_same] at hs
    exact hs.elim
  · obtain ⟨rfl, rfl⟩ := lk hx
    obtain ⟨cs, h1, h2⟩ := hok
    exact ⟨cs, by rw [updF_same]; exact h1, by rw [updF_same, updF_same]; exact h2⟩

/-- A part of what a root owns goes under a key of one's own; what is left is g. -/
theorem RelX.part (h : RelX C Γ σ val loc S F tmps w) {kv o : Nat} (hk : ∀ i, kv ≠ tk i) (hp : kv % 64 ≠ 62) (ho : o ≠ kv) {v : Value} {g : D} {q : PV} {T : Set} (hT : ∀ b, T b → S o b)
    (hok : ∃ cs, Fits d v cs ∧ R C.P w F d cs p T)
    (hg : Ok C.P w F (ap Γ [(kv, .v d), (o, g)] [kv] []) (updF σ o q) val loc (updF S o fun b => S o b ∧ ¬ T b) o g) (hgr : g.roots = [] ∧ g.deep = [] ∧ g.weak = []) :
    RelX C (ap Γ [(kv, .v d), (o, g)] [kv] []) (updF (updF σ o q) kv p) (updF val kv v) loc (updF (updF S o fun b => S o b ∧ ¬ T b) kv T) F tmps w := by
  have lk : ∀ {k : Nat} {x : D}, look [(kv, D.v d), (o, g)] k = some x → (k = kv ∧ x = .v d) ∨ (k = o ∧ x = g) := by
    intro k x hx
    rw [look_cons, look_cons, look_nil] at hx
    split at hx
    · rename_i e; exact .inl ⟨e, by simpa using hx.symm⟩
    · split at hx
      · rename_i e; exact .inr ⟨e, by simpa using hx.symm⟩
      · cases hx
  have ne : ∀ {k : Nat}, look [(kv, D.v d), (o, g)] k = none → k ≠ kv ∧ k ≠ o := by
    intro k hx
    rw [look_cons, look_cons, look_nil] at hx
    refine ⟨fun e => by simp [e] at hx, fun e => ?_⟩
    subst e
    split at hx <;> simp at hx
  have eS : ∀ k b, updF (updF S o fun b => S o b ∧ ¬ T b) kv T k b → (k = kv ∧ T b) ∨ (k ≠ kv ∧ k = o ∧ S o b ∧ ¬ T b) ∨ (k ≠ kv ∧ k ≠ o ∧ S k b) := by
    intro k b hb
    by_cases e1 : k = kv
    · subst e1; rw [updF_same] at hb; exact .inl ⟨rfl, hb⟩
    · rw [updF_ne _ _ e1] at hb
      by_cases e2 : k = o
      · subst e2; rw [updF_same] at hb; exact .inr (.inl ⟨e1, rfl, hb⟩)
      · rw [updF_ne _ _ e2] at hb; exact .inr (.inr ⟨e1, e2, hb⟩)
  refine h.app [(kv, .v d), (o, g)] [kv] [] (fun k hx => ?_) (fun k x hx hm => ?_) (fun o x _ hm => by simp [mem_nil] at hm) (fun k hk6 => ⟨updF_ne _ _ (fun e => hp (e ▸ hk6)), rfl⟩) h.n
    (fun i => by rw [updF_ne _ _ (fun e => hk i e.symm)]; exact h.tm i) (fun b hb => hb) (fun b hb => hb) h.fz (fun b _ _ => rfl) rfl rfl rfl (Nat.le_refl _) (fun k x b hx hs => ?_) (fun k x b hx hs => ?_) (fun k x k' x' b hx hx' hs hs' => ?_) (fun k x b hx hs hf => ?_) (fun k x hx => ?_)
  · obtain ⟨e1, e2⟩ := ne hx
    exact ⟨by rw [updF_ne _ _ e1, updF_ne _ _ e2], by rw [updF_ne _ _ e1], rfl, by rw [updF_ne _ _ e1, updF_ne _ _ e2]⟩
  · rcases lk hx with ⟨rfl, rfl⟩ | ⟨rfl, rfl⟩
    · simp [mem_cons] at hm
    · exact ⟨updF_ne _ _ ho, rfl⟩
  · have hl : look [(kv, D.v d), (o, g)] o = some g := by rw [look_cons, look_cons]; simp [ho]
    rcases eS k b hs with ⟨_, hb⟩ | ⟨_, _, hb, _⟩ | ⟨e1, e2, hb⟩
    · exact .inl ⟨o, g, hl, hT b hb⟩
    · exact .inl ⟨o, g, hl, hb⟩
    · rcases lk hx with ⟨rfl, _⟩ | ⟨rfl, _⟩
      · exact absurd rfl e1
      · exact absurd rfl e2
  · rcases eS k b hs with ⟨_, hb⟩ | ⟨_, _, hb, _⟩ | ⟨e1, e2, hb⟩
    · exact h.sz o b (hT b hb)
    · exact h.sz o b hb
    · exact h.sz k b hb
  · rcases eS k b hs with ⟨e, hb⟩ | ⟨_, e, hb, hb2⟩ | ⟨e1, e2, hb⟩ <;> rcases eS k' b hs' with ⟨e', hb'⟩ | ⟨_, e', hb', hb2'⟩ | ⟨e1', e2', hb'⟩
    · rw [e, e']
    · exact absurd hb hb2'
    · exact absurd (h.dj k' o b hb' (hT b hb)) e2'
    · exact absurd hb' hb2
    · rw [e, e']
    · exact absurd (h.dj k' o b hb' hb) e2'
    · exact absurd (h.dj k o b hb (hT b hb')) e2
    · exact absurd (h.dj k o b hb hb') e2
    · exact h.dj k k' b hb hb'
  · rcases eS k b hs with ⟨_, hb⟩ | ⟨_, _, hb, _⟩ | ⟨e1, e2, hb⟩
    · exact h.sF o b (hT b hb) hf
    · exact h.sF o b hb hf
    · exact h.sF k b hb hf
  · rcases lk hx with ⟨rfl, rfl⟩ | ⟨rfl, rfl⟩
    · obtain ⟨cs, h1, h2⟩ := hok
      exact ⟨cs, by rw [updF_same]; exact h1, by rw [updF_same, updF_same]; exact h2⟩
    · refine hg.keep (updF_ne _ _ ho) (updF_ne _ _ ho) (fun _ => ⟨rfl, fun b hb => by rw [updF_ne _ _ ho]; exact hb, fun _ _ => rfl⟩) (fun b hb => hb) (fun _ _ => rfl) (fun o ho => ?_) (fun o ho => ?_) (fun o ho => ?_)
      · rw [hgr.1] at ho; cases ho
      · rw [hgr.2.1] at ho; cases ho
      · rw [hgr.2.2] at ho; cases ho

theorem SD.setN_isAgg : ∀ (d : SD) (i : Nat) (y : SD), (d.setN i y).isAgg = d.isAgg
  | .sc a b, 0, y | .sc a b, i + 1, y => rfl
  | .int _, i, y | .bool, i, y | .str, i, y | .bor _, i, y | .nl, i, y | .own _ _, i, y | .mz, i, y | .mp _, i, y | .sb _, i, y | .ifc, i, y | .np, i, y | .fp _, i, y | .sn, i, y | .dead _, i, y => rfl
theorem SD.put_isAgg (d : SD) (i : Nat) (π : List Nat) (y : SD) : (d.put (i :: π) y).isAgg = d.isAgg := by
  simp only [SD.put]
  split
  · exact SD.setN_isAgg ..
  · rfl

theorem updF_twice {α : Type} (f : Nat → α) (k : Nat) (v v' : α) : updF (updF f k v) k v' = updF f k v' := by
  funext j; unfold updF; split <;> rfl

/-- What stays behind when a part at some fields goes. -/
theorem RelX.goneOk (h : RelX C Γ σ val loc S F tmps w) {o : Nat} {π : List Nat} {d x : SD} (hr : rootSD Γ o = some d) (hx : d.get π = some x) (Γ' : Nat → D) :
    ∃ (base : Option Nat) (cs pre c1 post : List Value) (T : Set), Root w Γ val loc S o d cs base ∧ cs = pre ++ c1 ++ post ∧ pre.length = d.off π ∧ R C.P w F x c1 ((σ o).get π) T ∧ (∀ b, T b → S o b) ∧
      Ok C.P w F Γ' (updF σ o ((σ o).put π .unit)) val loc (updF S o fun b => S o b ∧ ¬ T b) o (gone Γ o π) ∧ ((gone Γ o π).roots = [] ∧ (gone Γ o π).deep = [] ∧ (gone Γ o π).weak = []) := by
  have hk := h.ok o
  unfold rootSD at hr
  unfold gone
  cases hΓ : Γ o <;> simp only [hΓ, reduceCtorEq, Option.some.injEq] at hr
  case v dd =>
    subst hr
    rw [hΓ] at hk
    obtain ⟨cs, hf, hR⟩ := hk
    obtain ⟨pre, c1, post, T, rfl, hl, hR1, hT, wand⟩ := R.focus π hR hx
    refine ⟨none, _, pre, c1, post, T, .inl ⟨hΓ, hf, rfl⟩, rfl, hl, hR1, hT, ?_⟩
    cases π with
    | nil => exact ⟨trivial, rfl, rfl, rfl⟩
    | cons i π =>
      simp only [List.isEmpty_cons, Bool.false_eq_true, if_false, hx]
      refine ⟨⟨pre ++ c1 ++ post, ?_, ?_⟩, rfl, rfl, rfl⟩
      · unfold Fits at hf ⊢
        rw [SD.put_isAgg]; exact hf
      · rw [updF_same, updF_same]
        exact (wand (w' := w) (F' := F) (x' := .dead x.sz) (c1' := c1) (q := .unit) (S1' := Set.none) (fun _ h => h) (fun _ _ => rfl) (.dead _ _ _ _ hR1.len) (fun _ h => h.elim)).wide (fun b hb => hb.elim id (fun h => h.elim))
  case box t dd =>
    subst hr
    rw [hΓ] at hk
    obtain ⟨arr, T0, h1, h2, h3, hR⟩ := hk
    obtain ⟨pre, c1, post, T, e, hl, hR1, hT, wand⟩ := R.focus π hR hx
    refine ⟨some (loc o), arr.toList, pre, c1, post, T, .inr ⟨t, arr, hΓ, h1, h2, rfl, rfl⟩, e, hl, hR1, fun b hb => (h3 b (hT b hb)).1, ?_⟩
    simp only [hx]
    refine ⟨⟨arr, fun b => T0 b ∧ ¬ T b, h1, ?_, fun b hb => ⟨?_, (h3 b hb.1).2⟩, ?_⟩, rfl, rfl, rfl⟩
    · rw [updF_same]; exact ⟨h2, fun ht => (h3 _ (hT _ ht)).2 rfl⟩
    · rw [updF_same]; exact ⟨(h3 b hb.1).1, hb.2⟩
    · rw [updF_same, e]
      exact (wand (w' := w) (F' := F) (x' := .dead x.sz) (c1' := c1) (q := .unit) (S1' := Set.none) (fun _ h => h) (fun _ _ => rfl) (.dead _ _ _ _ hR1.len) (fun _ h => h.elim)).wide (fun b hb => hb.elim id (fun h => h.elim))

theorem Root.eq {o : Nat} {d d' : SD} {cs cs' : List Value} {base base' : Option Nat} (h : Root w Γ val loc S o d cs base) (h' : Root w Γ val loc S o d' cs' base') : d = d' ∧ cs = cs' ∧ base = base' := by
  rcases h with ⟨a1, a2, a3⟩ | ⟨t, arr, a1, a2, a3, a4, a5⟩ <;> rcases h' with ⟨b1, b2, b3⟩ | ⟨t', arr', b1, b2, b3, b4, b5⟩
  · rw [a1] at b1
    simp only [D.v.injEq] at b1
    subst b1
    refine ⟨rfl, ?_, by rw [a3, b3]⟩
    rcases a2 with ⟨x1, x2⟩ | ⟨x1, x2⟩ <;> rcases b2 with ⟨y1, y2⟩ | ⟨y1, y2⟩ <;> simp_all
  · rw [a1] at b1; cases b1
  · rw [a1] at b1; cases b1
  · rw [a1] at b1
    simp only [D.box.injEq] at b1
    obtain ⟨rfl, rfl⟩ := b1
    rw [a2] at b2
    simp only [Option.some.injEq, Obj.cells.injEq, and_true] at b2
    obtain ⟨rfl, _⟩ := b2
    exact ⟨rfl, by rw [a4, b4], by rw [a5, b5]⟩
theorem Root.sd {o : Nat} {d : SD} {cs : List Value} {base : Option Nat} (h : Root w Γ val loc S o d cs base) : rootSD Γ o = some d := by
  rcases h with ⟨a1, _⟩ | ⟨t, arr, a1, _⟩ <;> simp [rootSD, a1]

theorem take_drop_mid {α : Type} {pre c post : List α} {n m : Nat} (h : pre.length = n) (hm : c.length = m) : ((pre ++ c ++ post).drop n).take m = c := by
  rw [List.append_assoc, ← h, List.drop_left, ← hm, List.take_left]

theorem take_ok (h : RelX C Γ σ val loc S F tmps w) {x : Operand} {kv : Nat} {d : SD} {m : MS} (hkv : kv % 64 = 63) (ht : take Γ x kv = some (d, m)) :
    ∃ S', RelX C (apm Γ m) (setAll σ [] m.sets) (updF val kv (evalOp tmps x)) loc S' F tmps w ∧ apm Γ m kv = .v d := by
  have hk : ∀ i, kv ≠ tk i := fun i e => by unfold tk at e; omega
  have hp : kv % 64 ≠ 62 := by omega
  unfold take at ht
  split at ht
  · rename_i c
    obtain ⟨⟨d', px⟩, hc, e⟩ := Option.map_eq_some_iff.1 ht
    simp only [Prod.mk.injEq] at e
    obtain ⟨rfl, rfl⟩ := e
    obtain ⟨h1, h2⟩ := constOf_R (P := C.P) (w := w) (F := F) (σ := σ) (T := Set.none) hc []
    refine ⟨updF S kv Set.none, ?_, ap_at (by rw [look_cons]; simp)⟩
    rw [setAll_one]
    exact h.newKey hk hp ⟨_, h1, h2⟩
  · rename_i t
    have hv : evalOp tmps (.tmp t) = val (tk t) := (h.tm t).symm
    rw [hv]
    cases hΓ : Γ (tk t) <;> simp only [hΓ, reduceCtorEq] at ht
    case v d0 =>
      have hok := h.ok (tk t)
      rw [hΓ] at hok
      obtain ⟨cs, hf, hR⟩ := hok
      split at ht
      · rename_i hpl
        simp only [Option.some.injEq, Prod.mk.injEq] at ht
        obtain ⟨rfl, rfl⟩ := ht
        refine ⟨updF S kv Set.none, ?_, ap_at (by rw [look_cons]; simp)⟩
        rw [setAll_one]
        exact h.newKey hk hp ⟨cs, hf, hR.ofPlain hpl _⟩
      · simp only [Option.some.injEq, Prod.mk.injEq] at ht
        obtain ⟨rfl, rfl⟩ := ht
        refine ⟨updF (updF S (tk t) fun b => S (tk t) b ∧ ¬ S (tk t) b) kv (S (tk t)), ?_, ap_at (by rw [look_cons]; simp)⟩
        rw [setAll_two]
        exact h.part hk hp (fun e => hk t e.symm) (fun b hb => hb) ⟨cs, hf, hR⟩ trivial ⟨rfl, rfl, rfl⟩
    case view o π =>
      split at ht
      · rename_i hc
        simp only [Bool.and_eq_true, Bool.not_eq_true', Option.isNone_iff_eq_none] at hc
        obtain ⟨hpost, hne⟩ := hc
        have hne := beq_false.1 hne
        cases hr : rootSD Γ o <;> simp only [hr, reduceCtorEq] at ht
        rename_i d0
        obtain ⟨x, hx, e⟩ := Option.map_eq_some_iff.1 ht
        simp only [Prod.mk.injEq] at e
        obtain ⟨rfl, rfl⟩ := e
        have hok := h.ok (tk t)
        rw [hΓ] at hok
        obtain ⟨⟨d1, cs1, base1, x1, c, ad, hroot, hsub, hfit⟩, _⟩ := hok
        obtain ⟨base, cs, pre, c1, post, T, hroot', rfl, hl, hR1, hT, hg, hgr⟩ := h.goneOk hr hx (ap Γ [(kv, .v x), (o, gone Γ o π.pre)] [kv] [])
        obtain ⟨rfl, rfl, rfl⟩ := hroot.eq hroot'
        unfold Sub at hsub
        simp only [hpost] at hsub
        obtain ⟨hx1, rfl, _⟩ := hsub
        rw [hx] at hx1
        simp only [Option.some.injEq] at hx1
        subst hx1
        rw [take_drop_mid hl hR1.len] at hfit
        refine ⟨updF (updF S o fun b => S o b ∧ ¬ T b) kv T, ?_, ap_at (by rw [look_cons]; simp)⟩
        rw [setAll_two]
        exact h.part hk hp hne hT ⟨c1, hfit, hR1⟩ hg hgr
      · cases ht
    case tr o π =>
      split at ht
      · cases ht
      · rename_i hne
        have hne : o ≠ kv := by simpa using hne
        cases hr : rootSD Γ o <;> simp only [hr, reduceCtorEq] at ht
        rename_i d0
        cases hx : d0.get π <;> simp only [hx, reduceCtorEq] at ht
        rename_i x
        cases x <;> simp only [reduceCtorEq, Option.some.injEq, Prod.mk.injEq] at ht
        rename_i e m'
        obtain ⟨rfl, rfl⟩ := ht
        have hok := h.ok (tk t)
        rw [hΓ] at hok
        obtain ⟨d1, cs1, base1, e1, y1, A, n, cap, mm, hroot, hget, hcell, hσ, hm0, hmn, hval⟩ := hok
        obtain ⟨base, cs, pre, c1, post, T, hroot', rfl, hl, hR1, hT, hg, hgr⟩ := h.goneOk hr hx (ap Γ [(kv, .v (.own e m')), (o, gone Γ o π)] [kv] [])
        obtain ⟨rfl, rfl, rfl⟩ := hroot.eq hroot'
        rw [take_drop_mid (m := 1) hl hR1.len] at hcell
        subst hcell
        refine ⟨updF (updF S o fun b => S o b ∧ ¬ T b) kv T, ?_, ap_at (by rw [look_cons]; simp)⟩
        rw [setAll_two]
        have hps : ∃ ps, (σ o).get π = .list ps := by
          generalize (σ o).get π = q at hR1
          cases hR1 <;> exact ⟨_, rfl⟩
        obtain ⟨ps, hps⟩ := hps
        rw [hps] at hR1
        have hR2 := hR1.trunc (k := mm.toNat) (by omega)
        refine h.part hk hp hne hT ⟨[val (tk t)], .inr ⟨rfl, rfl⟩, ?_⟩ hg hgr
        rw [hval]
        simpa [PX.eval, hps, hσ, PV.toList, PV.toInt] using hR2
  · cases ht
end
end Go.Rsc
