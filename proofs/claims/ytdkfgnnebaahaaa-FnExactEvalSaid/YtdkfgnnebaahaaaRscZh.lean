/- Operations that look at and turn different things may change places. No conditions. -/
import Derived.Test.YtdkfgnnebaahaaaRscZg
namespace Go.Rsc
open Go.RowKit
set_option linter.unusedVariables false
set_option linter.unusedSimpArgs false

def Eqv (ks : List Nat) (σ τ : Nat → PV) : Prop := ∀ k ∈ ks, σ k = τ k

theorem Eqv.sub {ks ls : List Nat} {σ τ : Nat → PV} (h : Eqv ks σ τ) (hs : ∀ k ∈ ls, k ∈ ks) : Eqv ls σ τ := fun k hk => h k (hs k hk)

theorem PX.eval_loc {σ τ : Nat → PV} (rs : List PV) : ∀ {x : PX}, Eqv x.keys σ τ → x.eval σ rs = x.eval τ rs := by
  intro x
  induction x with
  | k key => intro h; exact h key (by simp [PX.keys])
  | _ =>
    intro h
    try simp only [PX.keys] at h
    first
      | rfl
      | (rename_i ih; simp only [PX.eval]; rw [ih h]; done)
      | (rename_i ih1 ih2; simp only [PX.eval]; rw [ih1 (h.sub fun k hk => by simp [hk]), ih2 (h.sub fun k hk => by simp [hk])]; done)
      | (rename_i ih1 ih2 ih3; simp only [PX.eval]; rw [ih1 (h.sub fun k hk => by simp [hk]), ih2 (h.sub fun k hk => by simp [hk]), ih3 (h.sub fun k hk => by simp [hk])]; done)
      | (rename_i ih1 ih2 ih3 ih4; simp only [PX.eval]; rw [ih1 (h.sub fun k hk => by simp [hk]), ih2 (h.sub fun k hk => by simp [hk]), ih3 (h.sub fun k hk => by simp [hk]), ih4 (h.sub fun k hk => by simp [hk])]; done)

theorem pxIn_sub {ks : List Nat} {x : PX} (h : pxIn ks x = true) : ∀ k ∈ x.keys, k ∈ ks := by
  intro k hk
  have := List.all_eq_true.1 h k hk
  obtain ⟨j, hj, e⟩ := List.any_eq_true.1 this
  rw [beq_iff.1 e]; exact hj

section
variable {I : Interp} {r : SR} {σ τ σ' τ' : Nat → PV} {ks rd : List Nat} {s a b : GS}

theorem setAll_loc {rs : List PV} {l : List (Nat × PX)} (h : Eqv ks σ τ) (hl : ∀ x ∈ l, pxIn ks x.2 = true) : Eqv ks (setAll σ rs l) (setAll τ rs l) := by
  intro k hk
  unfold setAll
  cases hx : lookS l k with
  | none => exact h k hk
  | some x => exact PX.eval_loc rs (h.sub (pxIn_sub (hl _ (lookS_mem hx))))

theorem look_key {U : List (Nat × D)} {k : Nat} (h : (look U k).isSome = true) : k ∈ updKeys U := by
  induction U with
  | nil => cases h
  | cons e U ih =>
    obtain ⟨j, x⟩ := e
    rw [look_cons] at h
    by_cases hk : k = j
    · subst hk; simp [updKeys]
    · simp [hk] at h
      have := ih (by simpa using h)
      simp only [updKeys, List.map_cons, List.mem_cons] at this ⊢
      exact .inr this
theorem key_look {U : List (Nat × D)} {k : Nat} (h : k ∈ updKeys U) : (look U k).isSome = true := by
  induction U with
  | nil => cases h
  | cons e U ih =>
    obtain ⟨j, x⟩ := e
    rw [look_cons]
    by_cases hk : k = j
    · simp [hk]
    · simp only [hk, if_false]
      refine ih ?_
      simp only [updKeys, List.map_cons, List.mem_cons] at h
      exact h.resolve_left hk

theorem sets_wr {m : MS} (h : setKeysOk m = true) {k : Nat} {x : PX} (hx : (k, x) ∈ m.sets) : k ∈ updKeys m.upd := look_key (List.all_eq_true.1 h _ hx)

structure SrOk (rd : List Nat) (r : SR) : Prop where
  pre : ∀ m ∈ r.pre, setKeysOk m = true ∧ ∀ x ∈ m.sets, pxIn (rd ++ r.wr) x.2 = true
  main : setKeysOk r.main = true
  sets : ∀ x ∈ r.main.sets, pxIn (rd ++ r.wr) x.2 = true
  chk : ∀ x ∈ r.chk, pxIn (rd ++ r.wr) x = true
  call : ∀ f as, r.call = some (f, as) → ∀ x ∈ as, pxIn (rd ++ r.wr) x = true

theorem SR.ok_spec (h : r.ok rd = true) : SrOk rd r := by
  unfold SR.ok at h
  simp only [Bool.and_eq_true, List.all_eq_true] at h
  obtain ⟨⟨⟨⟨h1, h2⟩, h3⟩, h4⟩, h5⟩ := h
  refine ⟨h1, h2, h3, h4, fun f as he x hx => ?_⟩
  rw [he] at h5
  exact List.all_eq_true.1 h5 x hx

theorem pre_loc (h : Eqv ks σ τ) : ∀ {l : List MS}, (∀ m ∈ l, ∀ x ∈ m.sets, pxIn ks x.2 = true) → Eqv ks (preRun l σ) (preRun l τ) := by
  intro l
  induction l generalizing σ τ with
  | nil => intro _; exact h
  | cons m l ih => intro hl; exact ih (setAll_loc h (hl m (by simp))) fun m' hm' => hl m' (by simp [hm'])
theorem pre_out : ∀ {l : List MS} {σ : Nat → PV} {k : Nat}, (∀ m ∈ l, setKeysOk m = true ∧ k ∉ updKeys m.upd) → preRun l σ k = σ k := by
  intro l
  induction l with
  | nil => intros; rfl
  | cons m l ih =>
    intro σ k hl
    have := ih (σ := setAll σ [] m.sets) (k := k) fun m' hm' => hl m' (by simp [hm'])
    refine this.trans (setAll_out fun x hx => ?_)
    exact (hl m (by simp)).2 (sets_wr (hl m (by simp)).1 hx)

theorem SR.run_loc (hr : SrOk rd r) (h : Eqv (rd ++ r.wr) σ τ) (hrun : r.run I σ = some σ') : ∃ τ', r.run I τ = some τ' ∧ Eqv (rd ++ r.wr) σ' τ' := by
  have h1 := pre_loc h (l := r.pre) fun m hm => (hr.pre m hm).2
  have hc : ∀ x ∈ r.chk, (x.eval (preRun r.pre σ) []).toBool = (x.eval (preRun r.pre τ) []).toBool := fun x hx => by rw [PX.eval_loc [] (h1.sub (pxIn_sub (hr.chk x hx)))]
  unfold SR.run at hrun ⊢
  simp only at hrun ⊢
  have hca : r.chk.all (fun c => (c.eval (preRun r.pre σ) []).toBool) = r.chk.all (fun c => (c.eval (preRun r.pre τ) []).toBool) := by
    rw [Bool.eq_iff_iff, List.all_eq_true, List.all_eq_true]
    exact ⟨fun h x hx => by rw [← hc x hx]; exact h x hx, fun h x hx => by rw [hc x hx]; exact h x hx⟩
  rw [← hca]
  split at hrun
  · rename_i hck
    rw [if_pos hck]
    cases hcall : r.call with
    | none =>
      rw [hcall] at hrun
      simp only [Option.some.injEq] at hrun
      subst hrun
      exact ⟨_, rfl, setAll_loc h1 hr.sets⟩
    | some q =>
      obtain ⟨f, as⟩ := q
      rw [hcall] at hrun
      simp only at hrun ⊢
      obtain ⟨rs, h2, rfl⟩ := Option.map_eq_some_iff.1 hrun
      have e : as.map (fun x => x.eval (preRun r.pre τ) []) = as.map (fun x => x.eval (preRun r.pre σ) []) := List.map_congr_left fun x hx => (PX.eval_loc [] (h1.sub (pxIn_sub (hr.call f as hcall x hx)))).symm
      rw [e, h2]
      exact ⟨_, rfl, setAll_loc h1 hr.sets⟩
  · cases hrun
theorem SR.run_wr (hr : SrOk rd r) (hrun : r.run I σ = some σ') {k : Nat} (hk : k ∉ r.wr) : σ' k = σ k := by
  have hk1 : ∀ m ∈ r.pre, setKeysOk m = true ∧ k ∉ updKeys m.upd := fun m hm => ⟨(hr.pre m hm).1, fun hm2 => hk (List.mem_append_left _ (List.mem_flatMap.2 ⟨m, hm, hm2⟩))⟩
  have hk2 : ∀ x, (k, x) ∉ r.main.sets := fun x hx => hk (List.mem_append_right _ (sets_wr hr.main hx))
  unfold SR.run at hrun
  simp only at hrun
  split at hrun
  · split at hrun
    · simp only [Option.some.injEq] at hrun
      subst hrun
      rw [setAll_out hk2, pre_out hk1]
    · obtain ⟨rs, _, rfl⟩ := Option.map_eq_some_iff.1 hrun
      rw [setAll_out hk2, pre_out hk1]
  · cases hrun

/-- What an operation of a region is, apart from what is known. -/
structure GsOk (s : GS) : Prop where
  r : SrOk s.rd s.r
  wr : s.wr = s.r.wr
  kw : s.kw = s.r.kw
  g : ∀ g b, s.g = some (g, b) → g ∈ s.rd ∧ ∀ d, s.dst = some d → tk d ∈ s.wr
  hs : ∀ x ∈ s.r.upds, x.2 ∈ s.hs

theorem GS.run_loc (hs : GsOk s) (h : Eqv (s.rd ++ s.wr) σ τ) (hrun : s.run I σ = some σ') : ∃ τ', s.run I τ = some τ' ∧ Eqv (s.rd ++ s.wr) σ' τ' := by
  have hr := hs.r
  have hw := hs.wr
  unfold GS.run at hrun ⊢
  cases hg : s.g with
  | none =>
    rw [hg] at hrun
    simp only at hrun ⊢
    rw [hw] at h ⊢
    exact SR.run_loc hr h hrun
  | some q =>
    obtain ⟨g, b⟩ := q
    rw [hg] at hrun
    simp only at hrun ⊢
    obtain ⟨h1, h2⟩ := hs.g g b hg
    rw [← h g (by simp [h1])]
    split at hrun
    · rename_i hb
      rw [if_pos hb]
      rw [hw] at h ⊢
      exact SR.run_loc hr h hrun
    · rename_i hb
      rw [if_neg hb]
      cases hd : s.dst with
      | none =>
        rw [hd] at hrun
        simp only [Option.some.injEq] at hrun
        subst hrun
        exact ⟨_, rfl, h⟩
      | some d =>
        rw [hd] at hrun
        simp only [Option.some.injEq] at hrun
        subst hrun
        refine ⟨_, rfl, setAll_loc h fun x hx => ?_⟩
        simp only [List.mem_singleton] at hx
        subst hx
        rfl
theorem GS.run_wr (hs : GsOk s) (hrun : s.run I σ = some σ') {k : Nat} (hk : k ∉ s.wr) : σ' k = σ k := by
  unfold GS.run at hrun
  have hk' : k ∉ s.r.wr := by rw [← hs.wr]; exact hk
  split at hrun
  · exact SR.run_wr hs.r hrun hk'
  · rename_i g b hg
    split at hrun
    · exact SR.run_wr hs.r hrun hk'
    · split at hrun
      · rename_i d hd
        simp only [Option.some.injEq] at hrun
        subst hrun
        refine setAll_out fun x hx => ?_
        simp only [List.mem_singleton, Prod.mk.injEq] at hx
        exact hk (hx.1 ▸ (hs.g g b hg).2 d hd)
      · simp only [Option.some.injEq] at hrun
        subst hrun
        rfl

structure Sep (a b : GS) : Prop where
  ww : ∀ k ∈ a.wr, k ∉ b.wr
  wr : ∀ k ∈ a.wr, k ∉ b.rd
  rw : ∀ k ∈ b.wr, k ∉ a.rd
  h1 : hits a b = false
  h2 : hits b a = false
theorem Sep.symm (h : Sep a b) : Sep b a := ⟨fun k h1 h2 => h.ww k h2 h1, h.rw, h.wr, h.h2, h.h1⟩
theorem sep_of (h : clash a b = false) : Sep a b := by
  unfold clash at h
  simp only [Bool.or_eq_false_iff] at h
  obtain ⟨⟨⟨h1, h2⟩, h3⟩, h4⟩ := h
  refine ⟨fun k hk hm => ?_, fun k hk hm => ?_, fun k hk hm => ?_, h3, h4⟩
  · have := mem_any.1 h1 k hk
    simp [mem_iff.2 hm] at this
  · have := mem_any.1 h1 k hk
    simp [mem_iff.2 hm] at this
  · have := mem_any.1 h2 k hk
    simp [mem_iff.2 hm] at this

theorem run_swap' (ha : GsOk a) (hb : GsOk b) (hww : ∀ k ∈ a.wr, k ∉ b.wr) (hwr : ∀ k ∈ a.wr, k ∉ b.rd) (hrw : ∀ k ∈ b.wr, k ∉ a.rd) {σ1 σ2 : Nat → PV} (h1 : a.run I σ = some σ1) (h2 : b.run I σ1 = some σ2) : ∃ τ1, b.run I σ = some τ1 ∧ a.run I τ1 = some σ2 := by
  have e1 : Eqv (b.rd ++ b.wr) σ1 σ := fun k hk => a.run_wr ha h1 fun hw => by
    rcases List.mem_append.1 hk with hk | hk
    · exact hwr k hw hk
    · exact hww k hw hk
  obtain ⟨τ1, g1, g2⟩ := GS.run_loc hb e1 h2
  have e2 : Eqv (a.rd ++ a.wr) σ τ1 := fun k hk => (b.run_wr hb g1 fun hw => by
    rcases List.mem_append.1 hk with hk | hk
    · exact hrw k hw hk
    · exact hww k hk hw).symm
  obtain ⟨τ2, g3, g4⟩ := GS.run_loc ha e2 h1
  refine ⟨τ1, g1, ?_⟩
  rw [g3]
  congr 1
  funext k
  by_cases hka : k ∈ a.wr
  · rw [← g4 k (by simp [hka]), b.run_wr hb h2 (hww k hka)]
  · rw [a.run_wr ha g3 hka]
    by_cases hkb : k ∈ b.wr
    · exact (g2 k (by simp [hkb])).symm
    · rw [b.run_wr hb g1 hkb, b.run_wr hb h2 hkb, a.run_wr ha h1 hka]
theorem run_swap (ha : GsOk a) (hb : GsOk b) (h : Sep a b) {σ1 σ2 : Nat → PV} (h1 : a.run I σ = some σ1) (h2 : b.run I σ1 = some σ2) : ∃ τ1, b.run I σ = some τ1 ∧ a.run I τ1 = some σ2 :=
  run_swap' ha hb h.ww h.wr h.rw h1 h2

/-! ### What is known -/
variable {Γ Γ' : Nat → D} {k : Nat}
theorem apS_eq (Γ : Nat → D) (r : SR) : apS Γ r = (r.pre ++ [r.main]).foldl apm Γ := by simp [apS]
theorem forg_none (U : List (Nat × D)) (kw so : List Nat) : forg U kw so .none = false := rfl
theorem fold_none : ∀ (l : List MS) {Γ : Nat → D}, Γ k = .none → (∀ m ∈ l, look m.upd k = none) → l.foldl apm Γ k = .none
  | [], Γ, h, _ => h
  | m :: l, Γ, h, hl => fold_none l (Γ := apm Γ m) (by rw [apm, ap_out (hl m (by simp)), h]; simp [forg_none]) fun m' hm' => hl m' (by simp [hm'])
theorem fold_out : ∀ (l : List MS) {Γ : Nat → D}, (∀ m ∈ l, look m.upd k = none) → l.foldl apm Γ k = if forgs l (Γ k) then .none else Γ k
  | [], Γ, _ => by simp [forgs]
  | m :: l, Γ, hl => by
    have hm := hl m (by simp)
    have hl' : ∀ m' ∈ l, look m'.upd k = none := fun m' hm' => hl m' (by simp [hm'])
    have e : apm Γ m k = if forg m.upd m.kw m.so (Γ k) then .none else Γ k := ap_out hm
    rw [List.foldl_cons]
    cases hf : forg m.upd m.kw m.so (Γ k) with
    | true =>
      rw [hf] at e
      rw [fold_none l (by simpa using e) hl']
      simp [forgs, hf]
    | false =>
      rw [hf] at e
      rw [fold_out l hl']
      simp only [Bool.false_eq_true, if_false] at e
      rw [e]
      simp [forgs, hf]
theorem fold_same : ∀ (l : List MS) {Γ Γ' : Nat → D}, Γ k = Γ' k → l.foldl apm Γ k = l.foldl apm Γ' k
  | [], _, _, h => h
  | m :: l, Γ, Γ', h => fold_same l (apm_at m h)
theorem fold_in : ∀ (l : List MS) {Γ Γ' : Nat → D}, (∃ m ∈ l, (look m.upd k).isSome = true) → l.foldl apm Γ k = l.foldl apm Γ' k
  | [], _, _, h => by obtain ⟨m, hm, _⟩ := h; cases hm
  | m :: l, Γ, Γ', h => by
    cases hm : look m.upd k with
    | some x => exact fold_same l (by rw [apm, apm, ap_at hm, ap_at hm])
    | none =>
      refine fold_in l ?_
      obtain ⟨m', h1, h2⟩ := h
      rcases List.mem_cons.1 h1 with e | e
      · subst e; rw [hm] at h2; cases h2
      · exact ⟨m', e, h2⟩
theorem look_mem {U : List (Nat × D)} {k : Nat} {y : D} (hy : look U k = some y) : (k, y) ∈ U := by
  induction U with
  | nil => cases hy
  | cons e U ih =>
    obtain ⟨j, z⟩ := e
    rw [look_cons] at hy
    by_cases hk : k = j
    · subst hk; simp at hy; simp [hy]
    · simp [hk] at hy; exact .tail _ (ih hy)
/-- What stands then stood, or was said. -/
theorem fold_val : ∀ (l : List MS) {Γ : Nat → D}, l.foldl apm Γ k ≠ .none → l.foldl apm Γ k = Γ k ∧ (∀ m ∈ l, look m.upd k = none) ∨ ∃ m ∈ l, (k, l.foldl apm Γ k) ∈ m.upd
  | [], Γ, h => .inl ⟨rfl, fun m hm => by cases hm⟩
  | m :: l, Γ, h => by
    rw [List.foldl_cons] at h ⊢
    rcases fold_val l (Γ := apm Γ m) h with ⟨h1, h2⟩ | ⟨m', h1, h2⟩
    · cases hm : look m.upd k with
      | some x =>
        have e : apm Γ m k = x := ap_at hm
        exact .inr ⟨m, by simp, by rw [h1, e]; exact look_mem hm⟩
      | none =>
        have e : apm Γ m k = if forg m.upd m.kw m.so (Γ k) then .none else Γ k := ap_out hm
        refine .inl ⟨?_, fun m' hm' => ?_⟩
        · rw [h1, e]
          cases hf : forg m.upd m.kw m.so (Γ k) with
          | true => rw [h1, e, hf] at h; simp at h
          | false => simp
        · rcases List.mem_cons.1 hm' with e | e
          · rw [e]; exact hm
          · exact h2 m' e
    · exact .inr ⟨m', by simp [h1], h2⟩

theorem mem_wr {m : MS} (hm : m ∈ r.pre ++ [r.main]) {k : Nat} (hk : k ∈ updKeys m.upd) : k ∈ r.wr := by
  rcases List.mem_append.1 hm with h | h
  · exact List.mem_append_left _ (List.mem_flatMap.2 ⟨m, h, hk⟩)
  · simp only [List.mem_singleton] at h; subst h; exact List.mem_append_right _ hk
theorem wr_mem {k : Nat} (hk : k ∈ r.wr) : ∃ m ∈ r.pre ++ [r.main], (look m.upd k).isSome = true := by
  rcases List.mem_append.1 hk with h | h
  · obtain ⟨m, h1, h2⟩ := List.mem_flatMap.1 h
    exact ⟨m, by simp [h1], key_look h2⟩
  · exact ⟨r.main, by simp, key_look h⟩
theorem wr_out {k : Nat} (hk : k ∉ r.wr) : ∀ m ∈ r.pre ++ [r.main], look m.upd k = none := by
  intro m hm
  cases hl : look m.upd k with
  | none => rfl
  | some x => exact absurd (mem_wr hm (look_key (by rw [hl]; rfl))) hk
theorem mem_upds {m : MS} (hm : m ∈ r.pre ++ [r.main]) {x : Nat × D} (hx : x ∈ m.upd) : x ∈ r.upds := by
  rcases List.mem_append.1 hm with h | h
  · exact List.mem_append_left _ (List.mem_flatMap.2 ⟨m, h, hx⟩)
  · simp only [List.mem_singleton] at h; subst h; exact List.mem_append_right _ hx
theorem mem_kw {m : MS} (hm : m ∈ r.pre ++ [r.main]) {k : Nat} (hk : k ∈ m.kw) : k ∈ r.kw := by
  rcases List.mem_append.1 hm with h | h
  · exact List.mem_append_left _ (List.mem_flatMap.2 ⟨m, h, hk⟩)
  · simp only [List.mem_singleton] at h; subst h; exact List.mem_append_right _ hk

/-- What b holds to is not forgotten by a. -/
theorem not_forgs (ha : GsOk a) (h : hits a b = false) {x : D} (hx : x ∈ b.hs) : forgs (a.r.pre ++ [a.r.main]) x = false := by
  have h := List.any_eq_false.1 h x hx
  simp only [Bool.not_eq_true, Bool.or_eq_false_iff] at h
  unfold forgs
  rw [List.any_eq_false]
  intro m hm
  simp only [Bool.not_eq_true]
  unfold forg
  simp only [Bool.or_eq_false_iff]
  have key : ∀ q, mem q a.wr = false → (look m.upd q).isSome = false := by
    intro q hq
    cases hl : (look m.upd q).isSome with
    | false => rfl
    | true =>
      have := mem_wr hm (look_key hl)
      rw [← ha.wr] at this
      rw [mem_iff.2 this] at hq; cases hq
  refine ⟨⟨mem_any.2 fun q hq => ?_, mem_any.2 fun q hq => key q (mem_any.1 h.1.2 q hq)⟩, mem_any.2 fun q hq => ?_⟩
  · rw [key q (mem_any.1 h.1.1 q hq)]; rfl
  · have := mem_any.1 h.2 q hq
    cases hk : mem q m.kw with
    | false => rfl
    | true =>
      have := mem_kw hm (mem_iff.1 hk)
      rw [← ha.kw] at this
      rw [mem_iff.2 this] at *
      contradiction

theorem apS_out (ha : GsOk a) {k : Nat} (hk : k ∉ a.wr) : apS Γ a.r k = if forgs (a.r.pre ++ [a.r.main]) (Γ k) then .none else Γ k := by
  rw [apS_eq]; exact fold_out _ (wr_out (by rw [← ha.wr]; exact hk))
theorem apS_in (ha : GsOk a) {k : Nat} (hk : k ∈ a.wr) : apS Γ a.r k = apS Γ' a.r k := by
  rw [apS_eq, apS_eq]; exact fold_in _ (wr_mem (by rw [← ha.wr]; exact hk))
theorem apS_hs (ha : GsOk a) {k : Nat} (hk : k ∈ a.wr) : apS Γ a.r k = .none ∨ apS Γ a.r k ∈ a.hs := by
  by_cases hn : apS Γ a.r k = .none
  · exact .inl hn
  · right
    rw [apS_eq] at hn ⊢
    rcases fold_val _ hn with ⟨_, h2⟩ | ⟨m, h1, h2⟩
    · obtain ⟨m, h3, h4⟩ := wr_mem (r := a.r) (by rw [← ha.wr]; exact hk)
      rw [h2 m h3] at h4; cases h4
    · exact ha.hs _ (mem_upds h1 h2)

theorem known_swap' (ha : GsOk a) (hb : GsOk b) (hww : ∀ k ∈ a.wr, k ∉ b.wr) (fa : ∀ x ∈ a.hs, forgs (b.r.pre ++ [b.r.main]) x = false) (fb : ∀ x ∈ b.hs, forgs (a.r.pre ++ [a.r.main]) x = false) : apS (apS Γ a.r) b.r = apS (apS Γ b.r) a.r := by
  have one : ∀ {a b : GS}, GsOk a → GsOk b → (∀ k ∈ a.wr, k ∉ b.wr) → (∀ x ∈ a.hs, forgs (b.r.pre ++ [b.r.main]) x = false) → ∀ k ∈ a.wr, apS (apS Γ a.r) b.r k = apS (apS Γ b.r) a.r k := by
    intro a b ha hb hw f k hk
    rw [apS_out hb (hw k hk), ← apS_in ha (Γ := Γ) (Γ' := apS Γ b.r) hk]
    rcases apS_hs ha (Γ := Γ) hk with e | e
    · rw [e]; simp
    · rw [f _ e]; simp
  funext k
  by_cases hka : k ∈ a.wr
  · exact one ha hb hww fa k hka
  · by_cases hkb : k ∈ b.wr
    · exact (one hb ha (fun k h1 h2 => hww k h2 h1) fb k hkb).symm
    · rw [apS_out hb hkb, apS_out ha hka, apS_out ha hka, apS_out hb hkb]
      cases h1 : forgs (a.r.pre ++ [a.r.main]) (Γ k) <;> cases h2 : forgs (b.r.pre ++ [b.r.main]) (Γ k) <;> simp [h1, h2]
theorem known_swap (ha : GsOk a) (hb : GsOk b) (h : Sep a b) : apS (apS Γ a.r) b.r = apS (apS Γ b.r) a.r :=
  known_swap' ha hb h.ww (fun _ hx => not_forgs hb h.h2 hx) (fun _ hx => not_forgs ha h.h1 hx)

/-- b turns what a only names. -/
structure LoS (a b : GS) : Prop where
  ww : ∀ k ∈ a.wr, k ∉ b.wr
  wr : ∀ k ∈ a.wr, k ∉ b.rd
  ok : GsOk { a with rd := a.rd.filter fun k => !mem k b.wr }
  fa : ∀ x ∈ a.hs, forgs (b.r.pre ++ [b.r.main]) x = false
  fb : ∀ x ∈ b.hs, forgs (a.r.pre ++ [a.r.main]) x = false
  pe : b.r.pre = []
  kp : ∀ k ∈ b.wr, k ∈ a.rd → ∃ d, look b.r.main.upd k = some d ∧ look b.kn k = some d
theorem lo_of (ha : GsOk a) (h : lo a b = true) : LoS a b := by
  unfold lo at h
  simp only [Bool.and_eq_true, Bool.not_eq_true', List.all_eq_true, Bool.or_eq_true, List.isEmpty_iff] at h
  obtain ⟨⟨⟨⟨⟨⟨h1, h3⟩, h4⟩, h5⟩, h6⟩, h7⟩, h8⟩ := h
  refine ⟨fun k hk hm => ?_, fun k hk hm => ?_, ⟨SR.ok_spec h4, ha.wr, ha.kw, fun g b' hg => ?_, ha.hs⟩, h7, h8, h1, fun k hk hm => ?_⟩
  · have := mem_any.1 h3 k hk
    simp [mem_iff.2 hm] at this
  · have := mem_any.1 h3 k hk
    simp [mem_iff.2 hm] at this
  · have hg : a.g = some (g, b') := hg
    obtain ⟨g1, g2⟩ := ha.g g b' hg
    rw [hg] at h5
    refine ⟨List.mem_filter.2 ⟨g1, ?_⟩, g2⟩
    simpa using h5
  · rcases h6 k hk with h | h
    · rw [mem_iff.2 hm] at h; cases h
    · split at h
      · rename_i d d' e1 e2
        have e := of_decide_eq_true h
        subst e
        exact ⟨d, e1, e2⟩
      · cases h
theorem lo_run1 (hb : GsOk b) (h : LoS a b) {σ1 σ2 : Nat → PV} (h1 : a.run I σ = some σ1) (h2 : b.run I σ1 = some σ2) : ∃ τ1, b.run I σ = some τ1 ∧ a.run I τ1 = some σ2 :=
  run_swap' (a := { a with rd := a.rd.filter fun k => !mem k b.wr }) h.ok hb h.ww h.wr (fun k hk hm => by have := (List.mem_filter.1 hm).2; rw [mem_iff.2 hk] at this; cases this) h1 h2
theorem lo_run2 (hb : GsOk b) (h : LoS a b) {σ1 σ2 : Nat → PV} (h1 : b.run I σ = some σ1) (h2 : a.run I σ1 = some σ2) : ∃ τ1, a.run I σ = some τ1 ∧ b.run I τ1 = some σ2 :=
  run_swap' (b := { a with rd := a.rd.filter fun k => !mem k b.wr }) hb h.ok (fun k h1 h2 => h.ww k h2 h1) (fun k hk hm => by have := (List.mem_filter.1 hm).2; rw [mem_iff.2 hk] at this; cases this) h.wr h1 h2
end
end Go.Rsc
