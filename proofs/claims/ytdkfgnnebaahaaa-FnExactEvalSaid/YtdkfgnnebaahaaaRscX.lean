/- What a call hands on. No conditions. -/
import Derived.Test.YtdkfgnnebaahaaaRscW
namespace Go.Rsc
open Go.RowKit
set_option linter.unusedVariables false
set_option linter.unusedSimpArgs false

theorem flatMap_index {α : Type} {f : α → List Nat} : ∀ {l : List α}, (l.flatMap f).Nodup → ∀ {k k' : Nat} {a a' : α} {x : Nat}, l[k]? = some a → l[k']? = some a' → x ∈ f a → x ∈ f a' → k = k'
  | [], _, k, k', a, a', x, h, _, _, _ => by simp at h
  | b :: l, hn, k, k', a, a', x, h, h', hx, hx' => by
    rw [List.flatMap_cons, List.nodup_append] at hn
    obtain ⟨_, h2, h3⟩ := hn
    cases k with
    | zero =>
      simp only [List.getElem?_cons_zero, Option.some.injEq] at h
      subst h
      cases k' with
      | zero => rfl
      | succ k' =>
        have := List.mem_of_getElem? (l := l) (by simpa using h' : l[k']? = some a')
        exact absurd rfl (h3 x hx x (List.mem_flatMap.2 ⟨a', this, hx'⟩))
    | succ k =>
      have hm := List.mem_of_getElem? (l := l) (by simpa using h : l[k]? = some a)
      cases k' with
      | zero =>
        simp only [List.getElem?_cons_zero, Option.some.injEq] at h'
        subst h'
        exact absurd rfl (h3 x hx' x (List.mem_flatMap.2 ⟨a, hm, hx⟩))
      | succ k' => exact congrArg (· + 1) (flatMap_index h2 (by simpa using h) (by simpa using h') hx hx')

/-- The place of a number. -/
def idx (l : List (Nat × PM)) (m : Nat) : Option Nat := l.findIdx? fun q => Nat.beq m q.1
theorem idx_at {l : List (Nat × PM)} (hn : (l.map (·.1)).Nodup) {k : Nat} {q : Nat × PM} (h : l[k]? = some q) : idx l q.1 = some k := by
  obtain ⟨hlt, e⟩ := List.getElem?_eq_some_iff.1 h
  refine List.findIdx?_eq_some_iff_getElem.2 ⟨hlt, by rw [e]; exact beq_iff.2 rfl, fun j hj => ?_⟩
  intro hb
  have e2 := beq_iff.1 hb
  have : j = k := (List.getElem_inj (i := j) (j := k) (h₀ := by simp; omega) (h₁ := by simpa using hlt) hn).1 (by simp [← e2, e])
  omega
theorem idx_mem {l : List (Nat × PM)} {m k : Nat} (h : idx l m = some k) : ∃ pm, l[k]? = some (m, pm) := by
  obtain ⟨hlt, h1, _⟩ := List.findIdx?_eq_some_iff_getElem.1 h
  exact ⟨l[k].2, by rw [List.getElem?_eq_getElem hlt]; exact congrArg some (Prod.ext (beq_iff.1 h1).symm rfl)⟩

noncomputable def Xat (l : List (Nat × PM)) (as : List AR) (σ : Nat → PV) (m : Nat) : PV := match idx l m with
  | some k => ((as[k]?).map fun a => a.arg.eval σ []).getD .unit
  | none => .unit
def Tat (l : List (Nat × PM)) (TK : Nat → Set) (m : Nat) : Set := match idx l m with
  | some k => TK k
  | none => Set.none
theorem Xat_at {l : List (Nat × PM)} {as : List AR} {σ : Nat → PV} {m k : Nat} {a : AR} (h : idx l m = some k) (ha : as[k]? = some a) : Xat l as σ m = a.arg.eval σ [] := by
  unfold Xat; rw [h]; simp [ha]
theorem Tat_at {l : List (Nat × PM)} {TK : Nat → Set} {m k : Nat} (h : idx l m = some k) : Tat l TK m = TK k := by
  unfold Tat; rw [h]
theorem Tat_inv {l : List (Nat × PM)} {TK : Nat → Set} {m b : Nat} (h : Tat l TK m b) : ∃ k, idx l m = some k ∧ TK k b := by
  cases hk : idx l m with
  | some k => exact ⟨k, rfl, by rw [Tat_at hk] at h; exact h⟩
  | none =>
    have : Tat l TK m = Set.none := by unfold Tat; rw [hk]
    rw [this] at h
    exact h.elim

section
variable {P : Program} {w w' : World} {F F' : Set} {Γ : Nat → D} {σ : Nat → PV} {val : Nat → Value} {loc : Nat → Nat} {S : Nat → Set} {C : Cx} {tmps : Array Value}
variable {d d' x y : SD} {cs c : List Value} {p q : PV} {T T' : Set}

/-- What is known of an argument. -/
structure Ent (C : Cx) (w : World) (F : Set) (Γ : Nat → D) (σ : Nat → PV) (val : Nat → Value) (loc : Nat → Nat) (S : Nat → Set) (pm : PM) (v : Value) (a : AR) (T : Set) : Prop where
  arg : PArg C.P w (fun b => F b ∨ lentOf S a.lent b) pm v (a.arg.eval σ []) T
  non : ownM pm = false → ∀ b, ¬ T b
  sub : ∀ b, T b → ∃ k ∈ a.keys, S k b
  bk : backM pm = a.root.isSome
  root : ∀ k D r, a.root = some (k, D, r) → D.isRoot = true ∧ (∀ b, T b → S k b) ∧ (a.soft = true → D = Γ k ∧ ((Γ k).isBox = true → S k (loc k) → ¬ T (loc k))) ∧ (a.soft = true ∨ ∃ t d, Γ k = .box t d) ∧ Back C.P w F σ val loc S pm v T k D r

theorem ent_ok (h : RelX C Γ σ val loc S F tmps w) {b m : Nat} {pm : PM} {s : Src} {a : AR} (hc : cArg C.P Γ b m pm s = some a) : ∃ T, Ent C w F Γ σ val loc S pm (argV tmps val b m pm s) a T := by
  obtain ⟨T, h1, h2, h3, h4, h5⟩ := cArg_ok h hc
  refine ⟨T, h1, h2, fun b' hb' => ?_, h4, h5⟩
  obtain ⟨k, hk, hs⟩ := h3 b' hb'
  refine ⟨k, ?_, hs⟩
  unfold AR.keys
  rcases hk with hk | ⟨D, r, hk⟩
  · exact List.mem_append.2 (.inr hk)
  · rw [hk]; simp

theorem cIn_ok {b : Nat} {ps : List PM} {args : List Src} {ss : List Src} {pre : List MS} {as : List AR} (h : RelX C Γ σ val loc S F tmps w)
    (hss : flatS0 Γ ps args = some ss) (htk : takeAs Γ b ((flatP ps 0).zip ss) = some pre) (has : cArgs C.P (pre.foldl apm Γ) b ((flatP ps 0).zip ss) = some as)
    (hd : distinct ((flatP ps 0).map (·.1)) = true) (hk : distinct (as.flatMap AR.keys) = true) (hl : ∀ k ∈ as.flatMap (·.lent), k ∉ as.flatMap AR.keys) (hok : args.all keyOk = true) (hlen : ps.length < 63) :
    ∃ (val1 : Nat → Value) (S1 : Nat → Set) (V : Nat → Value) (X : Nat → PV) (T : Nat → Set), RelX C (pre.foldl apm Γ) (preRun pre σ) val1 loc S1 F tmps w ∧ (∀ k, k % 64 ≠ 63 → val1 k = val k) ∧
      CIn C.P w (fun b => F b ∨ lentOf S1 (as.flatMap (·.lent)) b) ps V X T ∧ (flatP ps 0).map (fun q => X q.1) = as.map (fun a => a.arg.eval (preRun pre σ) []) ∧ (List.range ps.length).map V = args.map (srcV tmps val) ∧
      as.length = (flatP ps 0).length ∧ (∀ (k : Nat) (m : Nat) (pm : PM) (a : AR), (flatP ps 0)[k]? = some (m, pm) → as[k]? = some a → Ent C w F (pre.foldl apm Γ) (preRun pre σ) val1 loc S1 pm (V m) a (T m)) ∧
      (∀ m b', T m b' → ∃ (k : Nat) (pm : PM) (a : AR), (flatP ps 0)[k]? = some (m, pm) ∧ as[k]? = some a ∧ ∃ j ∈ a.keys, S1 j b') := by
  have hnd := distinct_iff _ hd
  have hkn := distinct_iff _ hk
  obtain ⟨f1, f2, f3, f4⟩ := flat_src (all := args) ps args 0 hss (fun j => by rw [Nat.zero_add]) (by omega)
  have hzl : ((flatP ps 0).zip ss).length = (flatP ps 0).length := by rw [List.length_zip, f1, Nat.min_self]
  have hzn : (((flatP ps 0).zip ss).map (·.1.1)).Nodup := by
    have : ((flatP ps 0).zip ss).map (·.1.1) = (flatP ps 0).map (·.1) := by
      rw [show (fun x : (Nat × PM) × Src => x.1.1) = (fun q : Nat × PM => q.1) ∘ Prod.fst from rfl, ← List.map_map, List.map_fst_zip (by omega)]
    rw [this]; exact hnd
  obtain ⟨val1, S1, h1, hv1, hv2⟩ := takeAs_ok _ h htk hzn
  obtain ⟨g1, g2⟩ := cArgs_get _ has
  have hal : as.length = (flatP ps 0).length := by rw [g1, hzl]
  have hval : ∀ k, k % 64 ≠ 63 → val1 k = val k := fun k hk => hv1 k (fun e _ he => hk (by rw [he]; exact vk_mod _))
  -- all of one entry
  have ent : ∀ (k : Nat) (m : Nat) (pm : PM), (flatP ps 0)[k]? = some (m, pm) → ∃ (s : Src) (a : AR), ss[k]? = some s ∧ as[k]? = some a ∧ cArg C.P (pre.foldl apm Γ) b m pm s = some a ∧ srcAt Γ args m = some s ∧ argV tmps val1 b m pm s = srcV tmps val1 s := by
    intro k m pm hkq
    have hlt : k < ss.length := by rw [f1]; exact (List.getElem?_eq_some_iff.1 hkq).1
    have hz : ((flatP ps 0).zip ss)[k]? = some ((m, pm), ss[k]) := List.getElem?_zip_eq_some.2 ⟨hkq, List.getElem?_eq_getElem hlt⟩
    obtain ⟨a, ha, hc⟩ := g2 k m pm _ hz
    have hs := (f3 m pm _ (List.mem_of_getElem? hz)).1
    refine ⟨_, a, List.getElem?_eq_getElem hlt, ha, hc, hs, ?_⟩
    cases pm with
    | mv dm =>
      cases hsrc : ss[k] with
      | key j => rw [hsrc] at hc; simp [cArg] at hc
      | op x =>
        rw [hsrc] at hz
        exact hv2 m dm x (List.mem_of_getElem? hz)
    | _ => rfl
  -- footprints, by choice
  have ch : ∀ k : Nat, ∃ Tk : Set, ∀ (m : Nat) (pm : PM) (s : Src) (a : AR), (flatP ps 0)[k]? = some (m, pm) → ss[k]? = some s → as[k]? = some a → Ent C w F (pre.foldl apm Γ) (preRun pre σ) val1 loc S1 pm (argV tmps val1 b m pm s) a Tk := by
    intro k
    cases hkq : (flatP ps 0)[k]? with
    | none => exact ⟨Set.none, fun m pm s a e => by cases e⟩
    | some q =>
      obtain ⟨m, pm⟩ := q
      obtain ⟨s, a, e1, e2, e3, _⟩ := ent k m pm hkq
      obtain ⟨Tk, hT⟩ := ent_ok h1 e3
      refine ⟨Tk, fun m' pm' s' a' q1 q2 q3 => ?_⟩
      simp only [Option.some.injEq, Prod.mk.injEq] at q1
      obtain ⟨rfl, rfl⟩ := q1
      rw [e1] at q2
      rw [e2] at q3
      simp only [Option.some.injEq] at q2 q3
      subst q2
      subst q3
      exact hT
  obtain ⟨TK, hTK⟩ := Classical.axiomOfChoice ch
  let V : Nat → Value := fun m => ((srcAt Γ args m).map (srcV tmps val1)).getD undef
  let X : Nat → PV := Xat (flatP ps 0) as (preRun pre σ)
  let T : Nat → Set := Tat (flatP ps 0) TK
  have hX : ∀ (k : Nat) (m : Nat) (pm : PM) (a : AR), (flatP ps 0)[k]? = some (m, pm) → as[k]? = some a → X m = a.arg.eval (preRun pre σ) [] := fun k m pm a e1 e2 => Xat_at (idx_at hnd e1) e2
  have hT : ∀ (k : Nat) (m : Nat) (pm : PM), (flatP ps 0)[k]? = some (m, pm) → T m = TK k := fun k m pm e1 => Tat_at (idx_at hnd e1)
  have hTi : ∀ m b', T m b' → ∃ (k : Nat) (pm : PM), (flatP ps 0)[k]? = some (m, pm) ∧ TK k b' := by
    intro m b' hb'
    obtain ⟨k, hk', hb'⟩ := Tat_inv hb'
    obtain ⟨pm, e⟩ := idx_mem hk'
    exact ⟨k, pm, e, hb'⟩
  have hE : ∀ (k : Nat) (m : Nat) (pm : PM) (a : AR), (flatP ps 0)[k]? = some (m, pm) → as[k]? = some a → Ent C w F (pre.foldl apm Γ) (preRun pre σ) val1 loc S1 pm (V m) a (T m) := by
    intro k m pm a e1 e2
    obtain ⟨s, a', q1, q2, q3, q4, q5⟩ := ent k m pm e1
    have := hTK k m pm s a e1 q1 e2
    rw [hT k m pm e1]
    have hV : V m = argV tmps val1 b m pm s := by
      show ((srcAt Γ args m).map (srcV tmps val1)).getD undef = _
      rw [q4, q5]; rfl
    rw [hV]
    exact this
  have hTs : ∀ m b', T m b' → ∃ (k : Nat) (pm : PM) (a : AR), (flatP ps 0)[k]? = some (m, pm) ∧ as[k]? = some a ∧ ∃ j ∈ a.keys, S1 j b' := by
    intro m b' hb'
    obtain ⟨k, pm, e1, e2⟩ := hTi m b' hb'
    obtain ⟨s, a, q1, q2, _⟩ := ent k m pm e1
    obtain ⟨j, hj, hs⟩ := (hE k m pm a e1 q2).sub b' hb'
    exact ⟨k, pm, a, e1, q2, j, hj, hs⟩
  have hsrcV : ∀ s ∈ args, srcV tmps val1 s = srcV tmps val s := by
    intro s hs
    cases s with
    | op x => rfl
    | key k =>
      have := List.all_eq_true.1 hok _ hs
      simp only [keyOk, Bool.not_eq_true'] at this
      exact hval k (beq_false.1 this)
  refine ⟨val1, S1, V, X, T, h1, hval, ⟨fun m pm hm => ?_, fun i f cs hi => ?_, fun m hm b' hb' => ?_, fun m m' b' hb' hb'' => ?_, fun m b' hb' hf => ?_, fun m b' hb' => ?_, fun b' hb' => ?_, h.kp.to (fun _ hb => .inl hb) (fun _ _ => rfl)⟩, ?_, ?_, hal, hE, hTs⟩
  · obtain ⟨k, e1⟩ := List.getElem?_of_mem hm
    obtain ⟨s, a, q1, q2, q3, q4, q5⟩ := ent k m pm e1
    have := (hE k m pm a e1 q2).arg
    rw [hX k m pm a e1 q2]
    exact this.more (fun b' hb' => hb'.imp_right fun ⟨o, ho, hs⟩ => ⟨o, List.mem_flatMap.2 ⟨a, List.mem_of_getElem? q2, ho⟩, hs⟩)
  · obtain ⟨s, ks, e1, e2, e3, e4, e5⟩ := f4 i f cs hi
    have hi63 : i < ps.length := (List.getElem?_eq_some_iff.1 hi).1
    have hVi : V i = srcV tmps val s := by
      show ((srcAt Γ args i).map (srcV tmps val1)).getD undef = _
      have : srcAt Γ args i = some s := by unfold srcAt; rw [if_pos (by omega), e1]
      rw [this]
      simp only [Option.map_some, Option.getD_some]
      exact hsrcV s (List.mem_of_getElem? e1)
    have hcap : (List.range cs.length).map (fun j => V (capN i + j)) = ks.map val := by
      apply List.ext_getElem
      · simp [e3]
      · intro j j1 j2
        simp only [List.length_map, List.length_range] at j1
        simp only [List.getElem_map, List.getElem_range]
        show ((srcAt Γ args (capN i + j)).map (srcV tmps val1)).getD undef = _
        have : srcAt Γ args (capN i + j) = some (.key (ks[j]'(by omega))) := by
          unfold srcAt
          have a1 : ¬ capN i + j < 2000 := by unfold capN; omega
          have a2 : (capN i + j - 2000) / 16 = i := by unfold capN; omega
          have a3 : (capN i + j - 2000) % 16 = j := by unfold capN; omega
          rw [if_neg a1, a2, a3, e1]
          simp only [Option.bind_some, e2]
          rw [List.getElem?_eq_getElem (by omega)]
          rfl
        rw [this]
        exact hval _ (e5 _ (List.getElem_mem _))
    rw [hVi, hcap]
    have key : ∀ k, Γ k = .clo (f % 4096) ks → val k = srcV tmps val s → srcV tmps val s = .func (.func (f % 4096)) #[] (ks.map val).toArray := by
      intro k hΓ hv
      have hk' := h.ok k
      rw [hΓ] at hk'
      rw [← hv]; exact hk'.1
    have key2 : ∀ k, srcD Γ s = Γ k → val k = srcV tmps val s → (match srcD Γ s with
      | .clo g ks => some (g, ks)
      | _ => none) = some (f % 4096, ks) → srcV tmps val s = .func (.func (f % 4096)) #[] (ks.map val).toArray := by
      intro k hsd hv hm
      rw [hsd] at hm
      split at hm
      · rename_i g' ks' hΓ
        simp only [Option.some.injEq, Prod.mk.injEq] at hm
        obtain ⟨rfl, rfl⟩ := hm
        exact key k hΓ hv
      · cases hm
    cases s with
    | key k => exact key2 k rfl rfl e2
    | op x =>
      cases x with
      | func g =>
        simp only [cloOf, Option.some.injEq, Prod.mk.injEq] at e2
        obtain ⟨rfl, rfl⟩ := e2
        rfl
      | tmp t => exact key2 (tk t) rfl (h.tm t) e2
      | _ => simp [cloOf, srcD] at e2
  · obtain ⟨k, pm, e1, e2⟩ := hTi m b' hb'
    obtain ⟨s, a, q1, q2, _⟩ := ent k m pm e1
    exact (hE k m pm a e1 q2).non (hm pm (List.mem_of_getElem? e1)) b' hb'
  · obtain ⟨k, pm, a, e1, e2, j, hj, hs⟩ := hTs m b' hb'
    obtain ⟨k', pm', a', e1', e2', j', hj', hs'⟩ := hTs m' b' hb''
    have := h1.dj _ _ _ hs hs'
    subst this
    have := flatMap_index hkn e2 e2' hj hj'
    subst this
    rw [e1] at e1'
    simp only [Option.some.injEq, Prod.mk.injEq] at e1'
    exact e1'.1
  · obtain ⟨k, pm, a, e1, e2, j, hj, hs⟩ := hTs m b' hb'
    rcases hf with hf | ⟨o, ho, hs'⟩
    · exact h1.sF _ _ hs hf
    · have := h1.dj _ _ _ hs hs'
      subst this
      exact hl _ ho (List.mem_flatMap.2 ⟨a, List.mem_of_getElem? e2, hj⟩)
  · obtain ⟨k, pm, a, e1, e2, j, hj, hs⟩ := hTs m b' hb'
    exact h1.sz _ _ hs
  · rcases hb' with hb' | ⟨o, ho, hs'⟩
    · exact h1.fz _ hb'
    · exact h1.sz _ _ hs'
  · apply List.ext_getElem?
    intro k
    rw [List.getElem?_map, List.getElem?_map]
    cases e1 : (flatP ps 0)[k]? with
    | none =>
      rw [List.getElem?_eq_none (by rw [hal]; exact List.getElem?_eq_none_iff.1 e1)]
      rfl
    | some q =>
      obtain ⟨m, pm⟩ := q
      obtain ⟨s, a, q1, q2, _⟩ := ent k m pm e1
      rw [q2]
      simp only [Option.map_some, hX k m pm a e1 q2]
  · apply List.ext_getElem
    · simp [f2]
    · intro i i1 i2
      simp only [List.length_map, List.length_range] at i1 i2
      simp only [List.getElem_map, List.getElem_range]
      show ((srcAt Γ args i).map (srcV tmps val1)).getD undef = _
      have : srcAt Γ args i = some args[i] := by unfold srcAt; rw [if_pos (by omega), List.getElem?_eq_getElem i2]
      rw [this]
      exact hsrcV _ (List.getElem_mem _)
end
end Go.Rsc
