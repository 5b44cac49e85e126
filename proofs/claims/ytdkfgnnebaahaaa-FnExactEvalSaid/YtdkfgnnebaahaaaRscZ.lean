/- Lists of a call's roots and results. No conditions. -/
import Derived.Test.YtdkfgnnebaahaaaRscY
namespace Go.Rsc
open Go.RowKit
set_option linter.unusedVariables false
set_option linter.unusedSimpArgs false

theorem look_append (A B : List (Nat × D)) (k : Nat) : look (A ++ B) k = match look A k with
  | some x => some x
  | none => look B k := by
  induction A with
  | nil => rfl
  | cons a A ih =>
    obtain ⟨j, d⟩ := a
    simp only [List.cons_append, look_cons]
    split
    · rfl
    · exact ih
theorem lookS_append (A B : List (Nat × PX)) (k : Nat) : lookS (A ++ B) k = match lookS A k with
  | some x => some x
  | none => lookS B k := by
  induction A with
  | nil => rfl
  | cons a A ih =>
    obtain ⟨j, d⟩ := a
    simp only [List.cons_append, lookS_cons]
    split
    · rfl
    · exact ih
theorem look_none {A : List (Nat × D)} {k : Nat} : look A k = none ↔ k ∉ A.map (·.1) := by
  induction A with
  | nil => simp [look_nil]
  | cons a A ih =>
    obtain ⟨j, d⟩ := a
    rw [look_cons]
    by_cases h : k = j
    · simp [h]
    · simp [h, ih]
theorem lookS_none {A : List (Nat × PX)} {k : Nat} : lookS A k = none ↔ k ∉ A.map (·.1) := by
  induction A with
  | nil => simp [lookS_nil]
  | cons a A ih =>
    obtain ⟨j, d⟩ := a
    rw [lookS_cons]
    by_cases h : k = j
    · simp [h]
    · simp [h, ih]
theorem look_some {A : List (Nat × D)} {k : Nat} {x : D} (h : look A k = some x) : (k, x) ∈ A := by
  induction A with
  | nil => simp [look_nil] at h
  | cons a A ih =>
    obtain ⟨j, d⟩ := a
    rw [look_cons] at h
    by_cases hk : k = j
    · subst hk; simp only [if_true, Option.some.injEq] at h; subst h; simp
    · rw [if_neg hk] at h; simp [ih h]
theorem rootUpd_mem : ∀ {as : List AR} {k : Nat} {x : D}, (k, x) ∈ rootUpd as ↔ ∃ a ∈ as, ∃ r, a.root = some (k, x, r)
  | [], k, x => by simp [rootUpd]
  | a :: as, k, x => by
    simp only [rootUpd]
    cases hr : a.root with
    | none =>
      simp only [rootUpd_mem (as := as)]
      constructor
      · rintro ⟨b, hb, r, e⟩; exact ⟨b, by simp [hb], r, e⟩
      · rintro ⟨b, hb, r, e⟩
        rcases List.mem_cons.1 hb with rfl | hb
        · rw [hr] at e; cases e
        · exact ⟨b, hb, r, e⟩
    | some q =>
      obtain ⟨o, d, r0⟩ := q
      simp only [List.mem_cons, Prod.mk.injEq, rootUpd_mem (as := as)]
      constructor
      · rintro (⟨rfl, rfl⟩ | ⟨b, hb, r, e⟩)
        · exact ⟨a, .inl rfl, r0, hr⟩
        · exact ⟨b, .inr hb, r, e⟩
      · rintro ⟨b, hb, r, e⟩
        rcases hb with rfl | hb
        · rw [hr] at e
          simp only [Option.some.injEq, Prod.mk.injEq] at e
          exact .inl ⟨e.1.symm, e.2.1.symm⟩
        · exact .inr ⟨b, hb, r, e⟩
theorem root_keys {a : AR} {k : Nat} {x : D} {r : Option (Pth × PX)} (h : a.root = some (k, x, r)) : k ∈ a.keys := by unfold AR.keys; rw [h]; simp
theorem own_keys {a : AR} {k : Nat} (h : k ∈ a.own) : k ∈ a.keys := List.mem_append.2 (.inr h)

theorem putPX_new {σ : Nat → PV} {rs : List PV} {k i : Nat} {π : Pth} {dyn : PX} (hd : dyn.eval σ rs = dyn.eval σ []) : (putPX k π dyn (.res i)).eval σ rs = newTree σ k (some (π, dyn)) (rs.getD i .unit) := by
  cases hp : π.post with
  | none => simp only [putPX, newTree, putAt, hp, PX.eval]
  | some φ => simp only [putPX, newTree, putAt, hp, PX.eval, hd]

/-- Where a root's tree comes from. -/
theorem outs_look {σ : Nat → PV} {X' : Nat → PV} : ∀ (l : List (Nat × PM)) (as : List AR) (n : Nat) (rs : List PV), l.length = as.length → (∀ (k : Nat) q a, l[k]? = some q → as[k]? = some a → backM q.2 = a.root.isSome) → (∀ a ∈ as, ∀ k D π dyn, a.root = some (k, D, some (π, dyn)) → ∀ rs, dyn.eval σ rs = dyn.eval σ []) →
    (as.flatMap AR.keys).Nodup → (∀ i, i < ((l.filter fun q => backM q.2).map (·.1)).length → rs.getD (n + i) .unit = (((l.filter fun q => backM q.2).map (·.1)).map X').getD i .unit) →
    ∀ (k : Nat) q a key D r, l[k]? = some q → as[k]? = some a → a.root = some (key, D, r) → ∃ px, lookS (outs as n) key = some px ∧ px.eval σ rs = newTree σ key r (X' q.1)
  | [], [], n, rs, _, _, _, _, _, k, q, a, key, D, r, h, _, _ => by simp at h
  | [], _ :: _, _, _, h, _, _, _, _, _, _, _, _, _, _, _, _, _ => by simp at h
  | _ :: _, [], _, _, h, _, _, _, _, _, _, _, _, _, _, _, _, _ => by simp at h
  | q0 :: l, a0 :: as, n, rs, hl, hb, hd, hn, hrs, k, q, a, key, D, r, hq, ha, hr => by
    simp only [List.length_cons, Nat.add_right_cancel_iff] at hl
    rw [List.flatMap_cons, List.nodup_append] at hn
    obtain ⟨hn1, hn2, hn3⟩ := hn
    have hb0 := hb 0 q0 a0 rfl rfl
    have hb' : ∀ (k : Nat) q a, l[k]? = some q → as[k]? = some a → backM q.2 = a.root.isSome := fun k q a h1 h2 => hb (k + 1) q a (by simpa using h1) (by simpa using h2)
    have hd' : ∀ a ∈ as, ∀ k D π dyn, a.root = some (k, D, some (π, dyn)) → ∀ rs, dyn.eval σ rs = dyn.eval σ [] := fun a h => hd a (by simp [h])
    cases k with
    | zero =>
      simp only [List.getElem?_cons_zero, Option.some.injEq] at hq ha
      subst hq
      subst ha
      rw [hr] at hb0
      have h0 := hrs 0 (by rw [List.filter_cons_of_pos (by simpa using hb0)]; simp)
      rw [List.filter_cons_of_pos (by simpa using hb0)] at h0
      simp only [Nat.add_zero, List.map_cons, List.getD_cons_zero] at h0
      simp only [outs, hr]
      cases r with
      | none => exact ⟨.res n, by rw [lookS_cons]; simp, by simp only [PX.eval, newTree]; exact h0⟩
      | some πd =>
        obtain ⟨π, dyn⟩ := πd
        refine ⟨putPX key π dyn (.res n), by simp only; rw [lookS_cons]; simp, ?_⟩
        rw [putPX_new (hd a0 (by simp) key D π dyn hr rs), h0]
    | succ k =>
      have hq' : l[k]? = some q := by simpa using hq
      have ha' : as[k]? = some a := by simpa using ha
      have hkin : key ∈ as.flatMap AR.keys := List.mem_flatMap.2 ⟨a, List.mem_of_getElem? ha', root_keys hr⟩
      cases hr0 : a0.root with
      | none =>
        rw [hr0] at hb0
        simp only [outs, hr0]
        exact outs_look l as n rs hl hb' hd' hn2 (fun i hi => by
          have hf : ((q0 :: l).filter fun q => backM q.2) = l.filter fun q => backM q.2 := List.filter_cons_of_neg (by simpa using hb0)
          have := hrs i (by rw [hf]; exact hi)
          rwa [hf] at this) k q a key D r hq' ha' hr
      | some t =>
        obtain ⟨o0, D0, r0⟩ := t
        rw [hr0] at hb0
        have hne : key ≠ o0 := fun e => hn3 o0 (root_keys hr0) key hkin (by rw [e])
        obtain ⟨px, e1, e2⟩ := outs_look l as (n + 1) rs hl hb' hd' hn2 (fun i hi => by
          have hf : ((q0 :: l).filter fun q => backM q.2) = q0 :: l.filter fun q => backM q.2 := List.filter_cons_of_pos (by simpa using hb0)
          have := hrs (i + 1) (by rw [hf]; simpa using hi)
          rw [hf] at this
          simpa [Nat.add_assoc, Nat.add_comm 1 i] using this) k q a key D r hq' ha' hr
        refine ⟨px, ?_, e2⟩
        simp only [outs, hr0]
        cases r0 with
        | none => simp only; rw [lookS_cons, if_neg hne]; exact e1
        | some πd => obtain ⟨π, dyn⟩ := πd; simp only; rw [lookS_cons, if_neg hne]; exact e1
end Go.Rsc
