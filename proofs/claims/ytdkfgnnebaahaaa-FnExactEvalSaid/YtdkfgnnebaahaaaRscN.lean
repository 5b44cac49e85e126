/- Values that are kept, boxes, stores. No conditions. -/
import Derived.Test.YtdkfgnnebaahaaaRscM
namespace Go.Rsc
open Go.RowKit
set_option linter.unusedVariables false
set_option linter.unusedSimpArgs false

section
variable {P : Program} {w w' : World} {F F' : Set} {Γ : Nat → D} {σ : Nat → PV} {val : Nat → Value} {loc : Nat → Nat} {S : Nat → Set} {C : Cx} {tmps : Array Value}
variable {d d' x y : SD} {cs c : List Value} {p q : PV} {T T' : Set}

theorem vk_mod (i : Nat) : vk i % 64 = 63 := by unfold vk; omega
theorem vk_ne_tk (i j : Nat) : vk i ≠ tk j := by unfold vk tk; omega
theorem vk_ne_bk (i j : Nat) : vk i ≠ bk j := by unfold vk bk; omega
theorem bk_ne_tk (i j : Nat) : bk i ≠ tk j := by unfold bk tk; omega

theorem R.oneCell (h : R P w F d cs p T) : hasDead d = false → ∀ v ∈ cs, v.oneCell' = true := by
  induction h with
  | sc d ds c cs p ps S S1 S2 _ _ _ _ _ ih1 ih2 =>
    intro hd v hv
    simp only [hasDead, Bool.or_eq_false_iff] at hd
    rcases List.mem_append.1 hv with hv | hv
    · exact ih1 hd.1 v hv
    · exact ih2 hd.2 v hv
  | dead => intro hd; simp [hasDead] at hd
  | sn => intro _ v hv; cases hv
  | int | bool | str | nl | mz | mp | sb | inil | isome | onil | np | fnil | fp | frec => intro _ v hv; simp only [List.mem_singleton] at hv; subst hv; rfl
  | bor => intro _ v hv; simp only [List.mem_singleton] at hv; subst hv; rfl
  | own => intro _ v hv; simp only [List.mem_singleton] at hv; subst hv; rfl

theorem look_pair {k j l : Nat} {a b : D} : look [(j, a), (l, b)] k = if k = j then some a else if k = l then some b else none := by
  rw [look_cons, look_cons, look_nil]

/-- A root turns: it takes what stood under a key; memory turns within the two. -/
theorem RelX.reroot' (h : RelX C Γ σ val loc S F tmps w) {o kv : Nat} (ho : o ≠ kv) {g : D} {so : List Nat}
    (hso : so = [] ∨ (so = [o] ∧ g = Γ o ∧ ((Γ o).isBox = true → S o (loc o) → w'.heap[loc o]? = w.heap[loc o]?)))
    (hw : ∀ b, b < w.heap.size → ¬ S o b → ¬ S kv b → w'.heap[b]? = w.heap[b]?) (hos : w'.os = w.os) (htape : w'.tape = w.tape) (hout : w'.output = w.output) (hsize : w'.heap.size = w.heap.size)
    (hok : Ok C.P w' F (ap Γ [(o, g), (kv, .none)] [] so) (updF σ o q) val loc (fun k => if k = o then (fun b => S o b ∨ S kv b) else if k = kv then Set.none else S k) o g) :
    RelX C (ap Γ [(o, g), (kv, .none)] [] so) (updF σ o q) val loc (fun k => if k = o then (fun b => S o b ∨ S kv b) else if k = kv then Set.none else S k) F tmps w' := by
  have lk : ∀ {k : Nat} {z : D}, look [(o, g), (kv, D.none)] k = some z → (k = o ∧ z = g) ∨ (k ≠ o ∧ k = kv ∧ z = .none) := by
    intro k z hz
    rw [look_pair] at hz
    split at hz
    · rename_i e; exact .inl ⟨e, by simpa using hz.symm⟩
    · rename_i e
      split at hz
      · rename_i e2; exact .inr ⟨e, e2, by simpa using hz.symm⟩
      · cases hz
  have ne : ∀ {k : Nat}, look [(o, g), (kv, D.none)] k = none → k ≠ o ∧ k ≠ kv := by
    intro k hz
    rw [look_pair] at hz
    refine ⟨fun e => by simp [e] at hz, fun e => ?_⟩
    split at hz
    · cases hz
    · simp [e] at hz
  have lo : look [(o, g), (kv, D.none)] o = some g := by rw [look_pair]; simp
  have lv : look [(o, g), (kv, D.none)] kv = some .none := by rw [look_pair, if_neg (Ne.symm ho)]; simp
  refine h.app [(o, g), (kv, .none)] [] so (fun k hz => ?_) (fun k z hz hm => ⟨rfl, rfl⟩) (fun k z hz hm => ?_) (fun k hk => ⟨rfl, rfl⟩) h.n h.tm
    (fun b hb => hb) (fun b hb => hb) (fun b hb => by rw [hsize]; exact h.fz b hb) (fun b hb hs => hw b hb (hs o g lo) (hs kv .none lv)) hos htape hout (by rw [hsize]; exact Nat.le_refl _)
    (fun k z b hz hs => ?_) (fun k z b hz hs => ?_) (fun k z k' z' b hz hz' hs hs' => ?_) (fun k z b hz hs hf => ?_) (fun k z hz => ?_)
  · obtain ⟨e1, e2⟩ := ne hz
    exact ⟨updF_ne _ _ e1, rfl, rfl, by simp [e1, e2]⟩
  · rcases hso with rfl | ⟨rfl, e, e2⟩
    · simp [mem_nil] at hm
    · rw [mem_iff, List.mem_singleton] at hm
      subst hm
      rw [lo] at hz
      simp only [Option.some.injEq] at hz
      subst hz
      exact ⟨e, rfl, rfl, fun hb hs => ⟨by simp only [if_true]; exact .inl hs, e2 hb hs⟩⟩
  · rcases lk hz with ⟨rfl, _⟩ | ⟨e1, rfl, _⟩
    · simp only [if_true] at hs
      rcases hs with hs | hs
      · exact .inl ⟨k, g, lo, hs⟩
      · exact .inl ⟨kv, .none, lv, hs⟩
    · simp only [e1, if_false, if_true] at hs; exact hs.elim
  · rcases lk hz with ⟨rfl, _⟩ | ⟨e1, rfl, _⟩
    · simp only [if_true] at hs
      rw [hsize]
      rcases hs with hs | hs
      · exact h.sz _ b hs
      · exact h.sz _ b hs
    · simp only [e1, if_false, if_true] at hs; exact hs.elim
  · rcases lk hz with ⟨rfl, _⟩ | ⟨e1, rfl, _⟩
    · rcases lk hz' with ⟨rfl, _⟩ | ⟨e1', rfl, _⟩
      · rfl
      · simp only [e1', if_false, if_true] at hs'; exact hs'.elim
    · simp only [e1, if_false, if_true] at hs; exact hs.elim
  · rcases lk hz with ⟨rfl, _⟩ | ⟨e1, rfl, _⟩
    · simp only [if_true] at hs
      rcases hs with hs | hs
      · exact h.sF _ b hs hf
      · exact h.sF _ b hs hf
    · simp only [e1, if_false, if_true] at hs; exact hs.elim
  · rcases lk hz with ⟨rfl, rfl⟩ | ⟨e1, rfl, rfl⟩
    · exact hok
    · trivial

theorem RelX.reroot (h : RelX C Γ σ val loc S F tmps w) {o kv : Nat} (hkv : kv % 64 = 63) (ho : o ≠ kv) {g : D} {so : List Nat}
    (hso : so = [] ∨ (so = [o] ∧ g = Γ o ∧ ((Γ o).isBox = true → S o (loc o) → w'.heap[loc o]? = w.heap[loc o]?)))
    (hw : ∀ b, b < w.heap.size → ¬ S o b → ¬ S kv b → w'.heap[b]? = w.heap[b]?) (hos : w'.os = w.os) (htape : w'.tape = w.tape) (hout : w'.output = w.output) (hsize : w'.heap.size = w.heap.size)
    (hok : Ok C.P w' F (ap Γ [(o, g), (kv, .none)] [] so) (updF σ o q) val loc (fun k => if k = o then (fun b => S o b ∨ S kv b) else if k = kv then Set.none else S k) o g) :
    RelX C (ap Γ [(o, g), (kv, .none)] [] so) (updF σ o q) val loc (fun k => if k = o then (fun b => S o b ∨ S kv b) else if k = kv then Set.none else S k) F tmps w' :=
  h.reroot' ho hso hw hos htape hout hsize hok

/-- A new box. -/
theorem RelX.newBox (h : RelX C Γ σ val loc S F tmps w) {t : Nat} (ht : t < C.nt) {ks : List Nat} (hks : ∀ k ∈ ks, k % 64 = 63) {g : D} {o : Obj}
    (hok : Ok C.P (w.alloc o) F (ap Γ ((bk t, g) :: (tk t, .bp (bk t)) :: noneOf ks) [bk t, tk t] []) (updF (updF σ (tk t) .unit) (bk t) p) (updF val (tk t) (.pointer (some ⟨w.heap.size, 0, none⟩))) (updF loc (bk t) w.heap.size)
      (fun k => if k = bk t then (fun b => b = w.heap.size ∨ ∃ k ∈ ks, S k b) else if k = tk t ∨ k ∈ ks then Set.none else S k) (bk t) g) :
    RelX C (ap Γ ((bk t, g) :: (tk t, .bp (bk t)) :: noneOf ks) [bk t, tk t] []) (updF (updF σ (tk t) .unit) (bk t) p) (updF val (tk t) (.pointer (some ⟨w.heap.size, 0, none⟩))) (updF loc (bk t) w.heap.size)
      (fun k => if k = bk t then (fun b => b = w.heap.size ∨ ∃ k ∈ ks, S k b) else if k = tk t ∨ k ∈ ks then Set.none else S k) F (tmps.setIfInBounds t (.pointer (some ⟨w.heap.size, 0, none⟩))) (w.alloc o) := by
  have hbt := bk_ne_tk t t
  have hkb : ∀ k ∈ ks, k ≠ bk t := fun k hk e => by have := hks k hk; rw [e] at this; unfold bk at this; omega
  have hkt : ∀ k ∈ ks, k ≠ tk t := fun k hk e => by have := hks k hk; rw [e] at this; unfold tk at this; omega
  have eq : ∀ k, look ((bk t, g) :: (tk t, D.bp (bk t)) :: noneOf ks) k = if k = bk t then some g else if k = tk t then some (.bp (bk t)) else if k ∈ ks then some .none else none := by
    intro k; rw [look_cons, look_cons, look_noneOf]
  have lk : ∀ {k : Nat} {z : D}, look ((bk t, g) :: (tk t, D.bp (bk t)) :: noneOf ks) k = some z → (k = bk t ∧ z = g) ∨ (k ≠ bk t ∧ k = tk t ∧ z = .bp (bk t)) ∨ (k ≠ bk t ∧ k ≠ tk t ∧ k ∈ ks ∧ z = .none) := by
    intro k z hz
    rw [eq] at hz
    split at hz
    · rename_i e; exact .inl ⟨e, by simpa using hz.symm⟩
    · rename_i e
      split at hz
      · rename_i e2; exact .inr (.inl ⟨e, e2, by simpa using hz.symm⟩)
      · rename_i e2
        split at hz
        · rename_i e3; exact .inr (.inr ⟨e, e2, e3, by simpa using hz.symm⟩)
        · cases hz
  have ne : ∀ {k : Nat}, look ((bk t, g) :: (tk t, D.bp (bk t)) :: noneOf ks) k = none → k ≠ bk t ∧ k ≠ tk t ∧ k ∉ ks := by
    intro k hz
    rw [eq] at hz
    split at hz
    · cases hz
    · rename_i e
      split at hz
      · cases hz
      · rename_i e2
        split at hz
        · cases hz
        · rename_i e3; exact ⟨e, e2, e3⟩
  have lks : ∀ k ∈ ks, look ((bk t, g) :: (tk t, D.bp (bk t)) :: noneOf ks) k = some .none := fun k hk => by rw [eq, if_neg (hkb k hk), if_neg (hkt k hk), if_pos hk]
  have hsz : (w.alloc o).heap.size = w.heap.size + 1 := by simp
  refine h.app _ [bk t, tk t] [] (fun k hz => ?_) (fun k z hz hm => ?_) (fun k z hz hm => by simp [mem_nil] at hm) (fun k hk => ?_) (by simpa using h.n) (fun i => ?_)
    (fun b hb => hb) (fun b hb => hb) (fun b hb => by rw [hsz]; exact Nat.lt_succ_of_lt (h.fz b hb)) (fun b hb hs => heap_alloc_old w o b hb) rfl rfl rfl (by rw [hsz]; omega)
    (fun k z b hz hs => ?_) (fun k z b hz hs => ?_) (fun k z k' z' b hz hz' hs hs' => ?_) (fun k z b hz hs hf => ?_) (fun k z hz => ?_)
  · obtain ⟨e1, e2, e3⟩ := ne hz
    exact ⟨by rw [updF_ne _ _ e1, updF_ne _ _ e2], updF_ne _ _ e2, updF_ne _ _ e1, by simp [e1, e2, e3]⟩
  · rcases lk hz with ⟨rfl, rfl⟩ | ⟨_, rfl, rfl⟩ | ⟨e1, e2, e3, rfl⟩
    · simp [mem_cons] at hm
    · simp [mem_cons] at hm
    · exact ⟨updF_ne _ _ e2, updF_ne _ _ e1⟩
  · exact ⟨updF_ne _ _ (fun e => by rw [e] at hk; unfold tk at hk; omega), updF_ne _ _ (fun e => by rw [e] at hk; unfold bk at hk; omega)⟩
  · rw [put_getD _ (by rw [h.n]; exact ht)]
    by_cases e : i = t
    · subst e; rw [updF_same]; simp
    · rw [updF_ne _ _ (fun e2 => e (tk_inj e2)), if_neg e]; exact h.tm i
  · rcases lk hz with ⟨rfl, rfl⟩ | ⟨e1, rfl, rfl⟩ | ⟨e1, e2, e3, rfl⟩
    · simp only [if_true] at hs
      rcases hs with rfl | ⟨k, hk, hs⟩
      · exact .inr (Nat.le_refl _)
      · exact .inl ⟨k, _, lks k hk, hs⟩
    · simp only [e1, if_false, true_or, if_true] at hs; exact hs.elim
    · simp only [e1, if_false, e3, or_true, if_true] at hs; exact hs.elim
  · rcases lk hz with ⟨rfl, rfl⟩ | ⟨e1, rfl, rfl⟩ | ⟨e1, e2, e3, rfl⟩
    · simp only [if_true] at hs
      rw [hsz]
      rcases hs with rfl | ⟨k, hk, hs⟩
      · omega
      · exact Nat.lt_succ_of_lt (h.sz k b hs)
    · simp only [e1, if_false, true_or, if_true] at hs; exact hs.elim
    · simp only [e1, if_false, e3, or_true, if_true] at hs; exact hs.elim
  · rcases lk hz with ⟨rfl, rfl⟩ | ⟨e1, rfl, rfl⟩ | ⟨e1, e2, e3, rfl⟩
    · rcases lk hz' with ⟨rfl, rfl⟩ | ⟨e1, rfl, rfl⟩ | ⟨e1, e2, e3, rfl⟩
      · rfl
      · simp only [e1, if_false, true_or, if_true] at hs'; exact hs'.elim
      · simp only [e1, if_false, e3, or_true, if_true] at hs'; exact hs'.elim
    · simp only [e1, if_false, true_or, if_true] at hs; exact hs.elim
    · simp only [e1, if_false, e3, or_true, if_true] at hs; exact hs.elim
  · rcases lk hz with ⟨rfl, rfl⟩ | ⟨e1, rfl, rfl⟩ | ⟨e1, e2, e3, rfl⟩
    · simp only [if_true] at hs
      rcases hs with rfl | ⟨k, hk, hs⟩
      · have := h.fz _ hf; omega
      · exact h.sF k b hs hf
    · simp only [e1, if_false, true_or, if_true] at hs; exact hs.elim
    · simp only [e1, if_false, e3, or_true, if_true] at hs; exact hs.elim
  · rcases lk hz with ⟨rfl, rfl⟩ | ⟨e1, rfl, rfl⟩ | ⟨e1, e2, e3, rfl⟩
    · exact hok
    · exact ⟨by rw [updF_same, updF_same], by rw [updF_ne _ _ (Ne.symm hbt), updF_same]⟩
    · trivial

section
variable {a : Act} {o : Oper} {K : Act → World → Prop} {Q : Exit → Act → World → Prop} {dst : Nat} {v : Value} {I : Interp} {σ' : Nat → PV} {r : SR}

theorem sr_run {chk : List PX} {pre : List MS} {main : MS} (h : ({ chk := chk, pre := pre, main := main } : SR).run I σ = some σ') : chk.all (fun c => (c.eval (preRun pre σ) []).toBool) = true ∧ σ' = setAll (preRun pre σ) [] main.sets := by
  unfold SR.run at h
  simp only at h
  split at h
  · rename_i hc
    exact ⟨hc, by simpa using h.symm⟩
  · cases h

theorem cAssign_ok {b : Nat} {ax : Operand} (h : RelX C Γ σ val loc S F a.tmps w) (ht : dst < C.nt) (hdst : o.dst = some dst) (hop : o.op = .assign ax)
    (hc : cAssign b Γ dst ax = some r) (hrun : r.run I σ = some σ') (hK : Cont C (apS Γ r) σ' a K) : o.wp C.P a w K Q := by
  unfold cAssign at hc
  split at hc
  · rename_i d m htk
    simp only [Option.some.injEq] at hc
    subst hc
    obtain ⟨_, rfl⟩ := sr_run (chk := []) hrun
    obtain ⟨S1, h1, hg⟩ := take_ok h (vk_mod b) htk
    have hok := h1.ok (vk b)
    rw [hg] at hok
    obtain ⟨cs, hf, hR⟩ := hok
    rw [updF_same] at hf
    have h2 := h1.make (ks := [vk b]) ht (by simp [vk_mod]) (v := evalOp a.tmps ax) (w' := w) (T := S1 (vk b)) (fun b' hb => .inl ⟨vk b, by simp, hb⟩) (fun _ _ _ => rfl) rfl rfl rfl (Nat.le_refl _) ⟨cs, hf, hR⟩
    refine wp_val hdst (v := evalOp a.tmps ax) (w' := w) (by simp [execOp, hop, evalOp_eq]) (hK _ _ ?_ rfl)
    have e : setAll (preRun [m] σ) [] [(tk dst, PX.k (vk b))] = updF (setAll σ [] m.sets) (tk dst) (setAll σ [] m.sets (vk b)) := by rw [setAll_one]; rfl
    rw [e]
    exact ⟨_, _, _, _, h2⟩
  · split at hc
    · exact cMove_ok h ht hdst (.inr (.inl hop)) hc hrun hK
    · cases hc

theorem run_newVar {t : TypeId} {v : Value} : (newVar t v).run P w = .ok ⟨w.heap.size, 0, none⟩ (w.alloc (.cells v.cells t)) := by
  simp [newVar, newRow]

theorem cBox_ok {b : Nat} {t : TypeId} {ax : Operand} (h : RelX C Γ σ val loc S F a.tmps w) (ht : dst < C.nt) (hdst : o.dst = some dst) (hop : o.op = .box t ax)
    (hc : cBox b C.P Γ dst t ax = some r) (hrun : r.run I σ = some σ') (hK : Cont C (apS Γ r) σ' a K) : o.wp C.P a w K Q := by
  have hr : (execOp a.eval o).run C.P w = .ok (.value (.pointer (some ⟨w.heap.size, 0, none⟩))) (w.alloc (.cells (evalOp a.tmps ax).cells t)) := by
    simp [execOp, hop, Instr.box, run_newVar, evalOp_eq]
  unfold cBox at hc
  split at hc
  · rename_i r' hp
    split at hc
    · rename_i d hsh
      split at hc
      · rename_i hty
        simp only [Option.some.injEq] at hc
        subst hc
        obtain ⟨_, rfl⟩ := sr_run (chk := []) (pre := []) hrun
        unfold pinned at hp
        split at hp
        · rename_i q
          have hok := h.ok (tk q)
          have hev : evalOp a.tmps (.tmp q) = val (tk q) := (h.tm q).symm
          split at hp
          · rename_i o' π hΓ
            rw [hΓ] at hok
            split at hp
            · rename_i hcond
              simp only [Bool.and_eq_true, beq_iff, decide_eq_true_eq] at hcond
              obtain ⟨h62, rfl⟩ := hcond
              split at hp
              · rename_i d0 hΓo
                split at hp
                · rename_i hagg
                  simp only [Option.some.injEq] at hp
                  subst hp
                  obtain ⟨⟨d1, cs, base, x, c, ad, g1, g2, g3⟩, g4⟩ := hok
                  obtain ⟨t1, t2, t3⟩ := g2.top
                  simp only [SD.get, Option.some.injEq] at t1
                  subst t1
                  have hd1 : d1 = d0 := by
                    have := g1.sd
                    simp only [rootSD, hΓo, Option.some.injEq] at this
                    exact this.symm
                  subst hd1
                  obtain ⟨T0, hR, hT0⟩ := h.rootR g1
                  have hcc : c = cs := by rw [t2]; simp only [SD.off, List.drop_zero]; rw [← hR.len, List.take_length]
                  subst hcc
                  have hcells : (evalOp a.tmps (.tmp q)).cells.toList = c := by
                    rw [hev, g3.agg hagg]; simp [Value.cells]
                  have hb62 : ∀ j, o' ≠ bk j := fun j e => by rw [e] at h62; unfold bk at h62; omega
                  have ht62 : ∀ j, o' ≠ tk j := fun j e => by rw [e] at h62; unfold tk at h62; omega
                  have e : setAll (preRun [] σ) [] [(bk dst, PX.unit), (tk dst, PX.unit)] = updF (updF σ (tk dst) .unit) (bk dst) .unit := by rw [setAll_two]; rfl
                  refine wp_val hdst hr (hK _ _ ?_ rfl)
                  rw [e]
                  refine ⟨_, _, _, _, h.newBox (p := .unit) ht (ks := []) (by simp) (g := .cb o' t) ?_⟩
                  refine ⟨d1, c, base, (evalOp a.tmps (.tmp q)).cells, ?_, ?_, ?_, hcells⟩
                  · rcases g1 with ⟨a1, a2, a3⟩ | ⟨t', arr, a1, _⟩
                    · refine .inl ⟨?_, by rw [updF_ne _ _ (ht62 _)]; exact a2, a3⟩
                      rw [ap_root (by simp [look_cons, look_nil, noneOf, hb62, ht62]) (by rw [a1]; rfl), a1]
                    · rw [hΓo] at a1; cases a1
                  · rw [updF_same]; exact heap_alloc_new w _
                  · rw [updF_same]; simp
                · cases hp
              · cases hp
            · cases hp
          · cases hp
        · cases hp
      · cases hc
    · cases hc
  · obtain ⟨⟨d, m⟩, htk, hc⟩ := Option.bind_eq_some_iff.1 hc
    simp only at hc
    split at hc
    · rename_i hcond
      simp only [Bool.and_eq_true, Bool.not_eq_true'] at hcond
      obtain ⟨hty, hdead⟩ := hcond
      simp only [Option.some.injEq] at hc
      subst hc
      obtain ⟨_, rfl⟩ := sr_run (chk := []) hrun
      obtain ⟨S1, h1, hg⟩ := take_ok h (vk_mod b) htk
      have hok := h1.ok (vk b)
      rw [hg] at hok
      obtain ⟨cs, hf, hR⟩ := hok
      rw [updF_same] at hf
      have hcells := hf.cells_eq hR hdead
      have e : setAll (preRun [m] σ) [] [(bk dst, PX.k (vk b)), (tk dst, .unit)] = updF (updF (setAll σ [] m.sets) (tk dst) .unit) (bk dst) (setAll σ [] m.sets (vk b)) := by rw [setAll_two]; rfl
      refine wp_val hdst hr (hK _ _ ?_ rfl)
      rw [e]
      refine ⟨_, _, _, _, h1.newBox (p := setAll σ [] m.sets (vk b)) ht (ks := [vk b]) (by simp [vk_mod]) (g := .box t d) ?_⟩
      refine ⟨(evalOp a.tmps ax).cells, S1 (vk b), by rw [updF_same]; exact heap_alloc_new w _, by rw [updF_same]; simp, fun b' hb => ⟨?_, ?_⟩, ?_⟩
      · simp only [if_true]; exact .inr ⟨vk b, by simp, hb⟩
      · rw [updF_same]; have := h1.sz _ b' hb; omega
      · rw [updF_same, hcells]
        exact hR.imp (fun b hb => hb) (fun b hb => hb) (fun b' hb => heap_alloc_old w _ b' (hb.elim (h1.fz b') (h1.sz _ b')))
    · cases hc

theorem zeroR_ok : ∀ {d : SD} {cs : List Value}, zeroR d cs = true → R P w F d cs ((zeroPX d).eval σ []) Set.none := by
  intro d
  induction d with
  | int k =>
    intro cs h
    cases cs with
    | nil => simp [zeroR] at h
    | cons v l =>
      cases l with
      | cons _ _ => cases v <;> simp [zeroR] at h
      | nil =>
        cases v <;> simp [zeroR, beqK] at h
        obtain ⟨rfl, rfl⟩ := h
        exact .int ..
  | bool =>
    intro cs h
    cases cs with
    | nil => simp [zeroR] at h
    | cons v l =>
      cases l with
      | cons _ _ => cases v <;> simp [zeroR] at h
      | nil =>
        cases v <;> simp [zeroR] at h
        subst h
        exact .bool ..
  | str =>
    intro cs h
    cases cs with
    | nil => simp [zeroR] at h
    | cons v l =>
      cases l with
      | cons _ _ => cases v <;> simp [zeroR] at h
      | nil =>
        cases v <;> simp [zeroR] at h
        rename_i s
        subst h
        exact .str ..
  | nl =>
    intro cs h
    match cs, h with
    | [.slice none 0 0], _ => exact .nl _
  | sc a b iha ihb =>
    intro cs h
    simp only [zeroR, Bool.and_eq_true] at h
    have h1 := iha h.1
    have h2 := ihb h.2.1
    have h3 : ∃ ps, ((zeroPX b).eval σ []) = .agg ps := by
      have hb := h.2.2
      cases b <;> first | (simp [SD.isAgg] at hb; done) | exact ⟨_, rfl⟩
    obtain ⟨ps, h3⟩ := h3
    rw [h3] at h2
    have := R.sc (P := P) (w := w) (F := F) a b _ _ _ ps Set.none _ _ h1 h2 (fun _ h => h) (fun _ h => h) (fun _ h _ => h)
    simpa [zeroPX, PX.eval, h3, PV.toAgg, List.take_append_drop] using this
  | sn =>
    intro cs h
    match cs, h with
    | [], _ => exact .sn _
  | mz =>
    intro cs h
    match cs, h with
    | [.map none], _ => exact .mz _
  | np =>
    intro cs h
    match cs, h with
    | [.pointer none], _ => exact .np _
  | bor | own | mp | sb | ifc | dead | fp => intro cs h; simp [zeroR] at h
end
end
end Go.Rsc
