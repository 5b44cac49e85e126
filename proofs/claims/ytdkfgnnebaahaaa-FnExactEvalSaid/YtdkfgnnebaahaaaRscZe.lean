/- What compiles at what is known of some keys compiles alike where more is known. No conditions. -/
import Derived.Test.YtdkfgnnebaahaaaRscZd
namespace Go.Rsc
open Go.RowKit
set_option linter.unusedVariables false
set_option linter.unusedSimpArgs false

def Le (Γ Γ' : Nat → D) : Prop := ∀ k, Γ k ≠ .none → Γ' k = Γ k

section
variable {P : Program} {Γ Γ' : Nat → D} {x : Operand} {o k t : Nat} {π : Pth} {sg : FuncId → Option Sig}

theorem Le.of (h : Le Γ Γ') {d : D} (e : Γ k = d) (hd : d ≠ .none) : Γ' k = d := by rw [h k (by rw [e]; exact hd), e]
theorem Le.under (h : Le Γ Γ') (g : Nat) (b : Bool) : Le (under Γ g b) (under Γ' g b) := by
  intro k hk
  by_cases hn : Γ k = .none
  · simp [Rsc.under, hn] at hk
  · simp only [Rsc.under, h k hn]
theorem Le.apm (h : Le Γ Γ') (m : MS) : Le (apm Γ m) (apm Γ' m) := by
  intro k hk
  by_cases hn : Γ k = .none
  · cases hl : look m.upd k with
    | some d => simp only [Rsc.apm, ap, hl]
    | none => simp [Rsc.apm, ap, hl, hn] at hk
  · simp only [Rsc.apm, ap, h k hn]
theorem Le.fold : ∀ {Γ Γ' : Nat → D} (h : Le Γ Γ') (l : List MS), Le (l.foldl Rsc.apm Γ) (l.foldl Rsc.apm Γ')
  | _, _, h, [] => h
  | _, _, h, m :: l => Le.fold (h.apm m) l
theorem Le.rootSD (h : Le Γ Γ') {d : SD} (hr : rootSD Γ o = some d) : Γ' o = Γ o := h o fun e => by simp [Rsc.rootSD, e] at hr
theorem rootSD_eq (e : Γ' o = Γ o) : rootSD Γ' o = rootSD Γ o := by simp only [rootSD, e]
theorem gone_eq (e : Γ' o = Γ o) (π : List Nat) : gone Γ' o π = gone Γ o π := by simp only [gone, e]
theorem setRoot_eq (e : Γ' o = Γ o) (π : List Nat) (d : SD) : setRoot Γ' o π d = setRoot Γ o π d := by simp only [setRoot, e]
theorem shapeAt_eq (e : Γ' o = Γ o) : shapeAt P Γ' o π = shapeAt P Γ o π := by simp only [shapeAt, rootSD_eq e]
theorem Le.shapeAt (h : Le Γ Γ') {d : SD} (hr : shapeAt P Γ o π = some d) : Γ' o = Γ o := by
  cases hd : Rsc.rootSD Γ o with
  | none => simp [Rsc.shapeAt, hd] at hr
  | some d => exact h.rootSD hd

theorem take_mono (h : Le Γ Γ') {kv : Nat} {r : SD × MS} (ht : take Γ x kv = some r) : take Γ' x kv = some r := by
  cases x with
  | tmp t =>
    by_cases hn : Γ (tk t) = .none
    · simp [take, hn] at ht
    · simp only [take, h _ hn] at ht ⊢
      cases hΓ : Γ (tk t) <;> simp only [hΓ] at ht ⊢ <;> try exact ht
      case view o π =>
        cases hr : rootSD Γ o with
        | none => simp [hr] at ht
        | some d =>
          have e := h.rootSD hr
          rw [rootSD_eq e, gone_eq e]; exact ht
      case tr o π =>
        cases hr : rootSD Γ o with
        | none => simp [hr] at ht
        | some d =>
          have e := h.rootSD hr
          rw [rootSD_eq e, gone_eq e]; exact ht
  | _ => exact ht
theorem take_none (h : Le Γ Γ') {kv : Nat} (hk : known Γ x = true) (hx : ∀ t, x = .tmp t → Γ (tk t) ≠ .none) (ht : take Γ x kv = none) : take Γ' x kv = none := by
  cases x with
  | tmp t =>
    have hn := hx t rfl
    simp only [take, known, h _ hn] at ht hk ⊢
    cases hΓ : Γ (tk t) <;> simp only [hΓ] at ht hk ⊢ <;> try exact ht
    case view o π =>
      obtain ⟨d, hr⟩ := Option.isSome_iff_exists.1 hk
      have e := h.rootSD hr
      rw [rootSD_eq e, gone_eq e]; exact ht
    case tr o π =>
      obtain ⟨d, hr⟩ := Option.isSome_iff_exists.1 hk
      have e := h.rootSD hr
      rw [rootSD_eq e, gone_eq e]; exact ht
  | _ => exact ht
theorem known_mono (h : Le Γ Γ') (hk : known Γ x = true) (hx : ∀ t, x = .tmp t → Γ (tk t) ≠ .none) : known Γ' x = true := by
  cases x with
  | tmp t =>
    have hn := hx t rfl
    simp only [known, h _ hn] at hk ⊢
    cases hΓ : Γ (tk t) <;> simp only [hΓ] at hk ⊢
    all_goals
      obtain ⟨d, hr⟩ := Option.isSome_iff_exists.1 hk
      rw [rootSD_eq (h.rootSD hr)]; exact hk
  | _ => exact hk

theorem lend_mono (h : Le Γ Γ') {r : SD × PX} (ht : lend P Γ x = some r) : lend P Γ' x = some r ∧ lendKeys Γ' x = lendKeys Γ x := by
  cases x with
  | tmp t =>
    by_cases hn : Γ (tk t) = .none
    · simp [lend, hn] at ht
    · refine ⟨?_, by simp only [lendKeys, h _ hn]⟩
      simp only [lend, h _ hn] at ht ⊢
      cases hΓ : Γ (tk t) <;> simp only [hΓ] at ht ⊢ <;> try exact ht
      all_goals
        rename_i o π
        first
          | (cases hr : shapeAt P Γ o π with
             | none => simp [hr] at ht
             | some d => rw [shapeAt_eq (h.shapeAt hr)]; exact ht)
          | (cases hr : shapeAt P Γ o ⟨π, none⟩ with
             | none => simp [hr] at ht
             | some d => rw [shapeAt_eq (h.shapeAt hr)]; exact ht)
  | _ => exact ⟨ht, rfl⟩

theorem plainOf_mono (h : Le Γ Γ') {r : SD × PX} (ht : plainOf Γ x = some r) : plainOf Γ' x = some r := by
  cases x with
  | tmp t =>
    by_cases hn : Γ (tk t) = .none
    · simp [plainOf, hn] at ht
    · simpa only [plainOf, h _ hn] using ht
  | _ => exact ht
theorem intOf_mono (h : Le Γ Γ') {r : IntKind × PX} (ht : intOf Γ x = some r) : intOf Γ' x = some r := by
  cases hp : plainOf Γ x with
  | none => simp [intOf, hp] at ht
  | some y => simpa only [intOf, plainOf_mono h hp, hp] using ht
theorem cMove_tmp {dst : Nat} {r : SR} (hc : cMove Γ dst x = some r) : ∀ t, x = .tmp t → Γ (tk t) ≠ .none := by
  rintro t rfl e
  simp [cMove, e] at hc
theorem cMove_mono (h : Le Γ Γ') {dst : Nat} {r : SR} (hc : cMove Γ dst x = some r) : cMove Γ' dst x = some r := by
  cases x with
  | tmp t => simpa only [cMove, h _ (cMove_tmp hc t rfl)] using hc
  | _ => exact hc
theorem cAssign_mono (h : Le Γ Γ') {b dst : Nat} {r : SR} (hc : cAssign b Γ dst x = some r) : cAssign b Γ' dst x = some r := by
  unfold cAssign at hc ⊢
  cases ht : take Γ x (vk b) with
  | some y => rw [take_mono h ht]; rw [ht] at hc; exact hc
  | none =>
    simp only [ht] at hc
    by_cases hk : known Γ x = true
    · rw [if_pos hk] at hc
      rw [take_none h hk (cMove_tmp hc) ht]
      simp only [known_mono h hk (cMove_tmp hc), if_true]
      exact cMove_mono h hc
    · rw [if_neg hk] at hc; cases hc

theorem placeOf_mono (h : Le Γ Γ') {r : Nat × Pth × SD} (hp : placeOf P Γ t = some r) : placeOf P Γ' t = some r := by
  by_cases hn : Γ (tk t) = .none
  · simp [placeOf, hn] at hp
  · simp only [placeOf, h _ hn] at hp ⊢
    cases hΓ : Γ (tk t) <;> simp only [hΓ] at hp ⊢ <;> try exact hp
    case bp o =>
      by_cases ho : Γ o = .none
      · simp [ho] at hp
      · rw [h _ ho]; exact hp
    case ptr o π =>
      cases hr : shapeAt P Γ o π with
      | none => simp [hr] at hp
      | some d => rw [shapeAt_eq (h.shapeAt hr), hr]; rw [hr] at hp; exact hp
theorem copyPlace_mono (h : Le Γ Γ') {r : Nat × Nat × TypeId × List Nat} (hp : copyPlace Γ t = some r) : copyPlace Γ' t = some r := by
  by_cases hn : Γ (tk t) = .none
  · simp [copyPlace, hn] at hp
  · simp only [copyPlace, h _ hn] at hp ⊢
    cases hΓ : Γ (tk t) <;> simp only [hΓ] at hp ⊢ <;> try exact hp
    case bp o =>
      by_cases ho : Γ o = .none
      · simp [ho] at hp
      · rw [h _ ho]; exact hp
theorem copyPlace_none (h : Le Γ Γ') {r : Nat × Pth × SD} (hp : placeOf P Γ t = some r) : copyPlace Γ' t = none := by
  by_cases hn : Γ (tk t) = .none
  · simp [placeOf, hn] at hp
  · simp only [placeOf, copyPlace, h _ hn] at hp ⊢
    cases hΓ : Γ (tk t) <;> simp only [hΓ] at hp ⊢ <;> try (first | rfl | cases hp)
    case bp o =>
      cases ho : Γ o <;> simp only [ho] at hp <;> try cases hp
      simp only [h.of ho (by simp)]

theorem cLoad_mono (h : Le Γ Γ') {dst : Nat} {ty : TypeId} {r : SR} (hc : cLoad P Γ dst ty x = some r) : cLoad P Γ' dst ty x = some r := by
  cases x with
  | tmp p =>
    simp only [cLoad] at hc ⊢
    cases hcp : copyPlace Γ p with
    | some q =>
      obtain ⟨o, r', bt, π⟩ := q
      simp only [hcp, copyPlace_mono h hcp] at hc ⊢
      cases hr : shapeAt P Γ r' ⟨π, none⟩ with
      | none => simp [hr] at hc
      | some d => rw [shapeAt_eq (h.shapeAt hr)]; exact hc
    | none =>
      by_cases hn : Γ (tk p) = .none
      · simp [hcp, hn, placeOf] at hc
      · simp only [hcp] at hc
        by_cases hrp : ∃ d, Γ (tk p) = .rp d
        · obtain ⟨d, hd⟩ := hrp
          have : copyPlace Γ' p = none := by simp only [copyPlace, h.of hd (by simp)]
          simp only [this, h.of hd (by simp)]
          simp only [hd] at hc
          exact hc
        · have hx : ∀ d, Γ (tk p) ≠ .rp d := fun d e => hrp ⟨d, e⟩
          cases hpl : placeOf P Γ p with
          | none =>
            cases hΓ : Γ (tk p) <;> simp only [hΓ, hpl] at hc <;> first | (cases hc; done) | exact absurd hΓ (hx _)
          | some q =>
            simp only [copyPlace_none h hpl, h _ hn, placeOf_mono h hpl]
            simp only [hpl] at hc
            exact hc
  | _ => exact hc

theorem placeOf_root {π : Pth} {d : SD} (hp : placeOf P Γ t = some (o, π, d)) : Γ o ≠ .none := by
  intro e
  simp only [placeOf] at hp
  cases hΓ : Γ (tk t) <;> simp only [hΓ] at hp <;> try cases hp
  case bp o2 =>
    cases ho : Γ o2 <;> simp only [ho] at hp <;> try cases hp
    simp [ho] at e
  case ptr o2 π2 =>
    obtain ⟨d2, h1, h2⟩ := Option.map_eq_some_iff.1 hp
    simp only [Prod.mk.injEq] at h2
    obtain ⟨rfl, rfl, rfl⟩ := h2
    simp [shapeAt, rootSD, e] at h1
theorem storePlace_mono {Γ1 Γ1' : Nat → D} (h : Le Γ Γ') (h1 : Le Γ1 Γ1') (hs : ∀ k, Γ k = Γ' k → Γ1 k = Γ1' k) {r : Nat × Pth × SD} (hp : storePlace P Γ Γ1 t = some r) : storePlace P Γ' Γ1' t = some r ∧ Γ1' r.1 = Γ1 r.1 := by
  unfold storePlace at hp ⊢
  cases hpl : placeOf P Γ1 t with
  | some q =>
    rw [hpl] at hp
    rw [placeOf_mono h1 hpl]
    simp only [Option.some.injEq] at hp
    subst hp
    exact ⟨rfl, h1 _ (placeOf_root (π := q.2.1) (d := q.2.2) hpl)⟩
  | none =>
    simp only [hpl] at hp
    by_cases hz : (Γ1 (tk t) == .none) = true
    rotate_left
    · rw [if_neg hz] at hp; cases hp
    rw [if_pos hz] at hp
    cases hpt : ptrOf Γ t with
    | none => simp [hpt] at hp
    | some q =>
      obtain ⟨o, π⟩ := q
      simp only [hpt] at hp
      have hn : Γ (tk t) ≠ .none := fun e => by simp [ptrOf, e] at hpt
      have e1 := h _ hn
      have e2 : ptrOf Γ' t = some (o, π) := by simpa only [ptrOf, e1] using hpt
      by_cases hpo : π.post.isSome = true
      · simp [hpo] at hp
      · simp only [hpo, if_false, Bool.false_eq_true] at hp
        cases ho : Γ o <;> simp only [ho] at hp <;> try cases hp
        rename_i t0 d0
        cases ho1 : Γ1 o <;> simp only [ho1] at hp <;> try cases hp
        rename_i t1 d1
        have e3 := h.of ho (by simp)
        have e4 := h1.of ho1 (by simp)
        have e6 := hs _ e1.symm
        have e7 : Γ1 (tk t) = .none := by simpa using hz
        have e5 : placeOf P Γ1' t = none := by simp only [placeOf, ← e6, e7]
        rw [e5, e2, ← e6]
        simp only [hz, hpo, if_false, if_true, Bool.false_eq_true, e3, e4]
        refine ⟨hp, ?_⟩
        split at hp
        · obtain ⟨d2, h3, h4⟩ := Option.map_eq_some_iff.1 hp
          subst h4
          rw [ho1]; exact e4
        · cases hp
theorem apm_at (m : MS) {k : Nat} (e : Γ k = Γ' k) : apm Γ m k = apm Γ' m k := by simp only [apm, ap, e]
theorem cStore_mono (h : Le Γ Γ') {b : Nat} {ty : TypeId} {a : Operand} {r : SR} (hc : cStore b P Γ ty a x = some r) : cStore b P Γ' ty a x = some r := by
  unfold cStore at hc ⊢
  cases ht : take Γ x (vk b) with
  | none => simp [ht] at hc
  | some q =>
    obtain ⟨d', m⟩ := q
    rw [take_mono h ht]
    rw [ht] at hc
    cases a with
    | tmp p =>
      simp only at hc ⊢
      cases hsp : storePlace P Γ (apm Γ m) p with
      | none => simp [hsp] at hc
      | some q =>
        obtain ⟨e1, e2⟩ := storePlace_mono h (h.apm m) (fun k e => apm_at m e) hsp
        obtain ⟨o, π, d⟩ := q
        simp only at e2
        simp only [e1, hsp, setRoot_eq e2, e2] at hc ⊢
        exact hc
    | _ => cases hc

theorem cStoreE_mono (h : Le Γ Γ') {ty : TypeId} {a : Operand} {r : SR} (hc : cStoreE P Γ ty a x = some r) : cStoreE P Γ' ty a x = some r := by
  unfold cStoreE at hc ⊢
  split at hc
  · rename_i p q
    split at hc
    · rename_i o π o' π' h1 h2
      simp only [h.of h1 (by simp), h.of h2 (by simp)]
      split at hc
      · rename_i hcond
        rw [if_pos hcond]
        cases hs : shapeAt P Γ o π with
        | none => simp [hs] at hc
        | some d =>
          have he := h.shapeAt hs
          rw [shapeAt_eq he, hs]
          rw [hs] at hc
          rw [he]
          exact hc
      · cases hc
    · cases hc
  · cases hc
/-- What isn't appended to an element is so wherever more is known. -/
theorem cStoreE_none (h : Le Γ Γ') {b : Nat} {ty : TypeId} {a : Operand} {r : SR} (hn : cStoreE P Γ ty a x = none) (hc : cStore b P Γ ty a x = some r) : cStoreE P Γ' ty a x = none := by
  cases hr : cStoreE P Γ' ty a x with
  | none => rfl
  | some r' =>
    exfalso
    unfold cStoreE at hr
    split at hr
    · rename_i p q
      split at hr
      · rename_i o π o' π' h1 h2
        unfold cStore at hc
        cases ht : take Γ (.tmp q) (vk b) with
        | none => simp [ht] at hc
        | some z =>
          by_cases hz : Γ (tk q) = .none
          · simp [take, hz] at ht
          · rw [h _ hz] at h1
            simp [take, h1] at ht
      · cases hr
    · cases hr
theorem fpPlace_eq {p : Nat} (h1 : Γ' (tk p) = Γ (tk p)) (h2 : ∀ o, Γ (tk p) = .bp o → Γ' o = Γ o) : fpPlace Γ' p = fpPlace Γ p := by
  unfold fpPlace
  rw [h1]
  cases hΓ : Γ (tk p) with
  | bp o => simp only [h2 o hΓ]
  | v d => cases d <;> rfl
  | _ => rfl
theorem fpPlace_mono (h : Le Γ Γ') {p : Nat} {q : TypeId × Nat} (hc : fpPlace Γ p = some q) : fpPlace Γ' p = some q := by
  have hn : Γ (tk p) ≠ .none := fun e => by simp [fpPlace, e] at hc
  rw [fpPlace_eq (h _ hn) fun o ho => h _ fun e => by simp [fpPlace, ho, e] at hc]
  exact hc
theorem fpPlace_none (h : Le Γ Γ') {p : Nat} (hc : fpPlace Γ p = none) (hn : Γ (tk p) ≠ .none) (ho : ∀ o, Γ (tk p) = .bp o → Γ o ≠ .none) : fpPlace Γ' p = none := by
  rw [fpPlace_eq (h _ hn) fun o e => h _ (ho o e)]
  exact hc
theorem cFieldAddr_mono (h : Le Γ Γ') {dst f : Nat} {ty : TypeId} {r : SR} (hc : cFieldAddr P Γ dst ty x f = some r) : cFieldAddr P Γ' dst ty x f = some r := by
  cases x with
  | tmp p =>
    simp only [cFieldAddr] at hc ⊢
    cases hfp : fpPlace Γ p with
    | some q =>
      rw [fpPlace_mono h hfp]
      rw [hfp] at hc
      exact hc
    | none =>
    have hfp' : fpPlace Γ' p = none := by
      rw [hfp] at hc
      refine fpPlace_none h hfp (fun hn => ?_) fun o hΓ ho => ?_
      · simp [copyPlace, hn, placeOf] at hc
      · simp [copyPlace, hΓ, ho, placeOf] at hc
    simp only [hfp] at hc
    simp only [hfp']
    cases hcp : copyPlace Γ p with
    | some q =>
      obtain ⟨o, r', bt, π⟩ := q
      simp only [hcp, copyPlace_mono h hcp] at hc ⊢
      cases hr : shapeAt P Γ r' ⟨π, none⟩ with
      | none => simp [hr] at hc
      | some d => rw [shapeAt_eq (h.shapeAt hr)]; exact hc
    | none =>
      by_cases hn : Γ (tk p) = .none
      · simp [hcp, hn, placeOf] at hc
      · simp only [hcp] at hc
        by_cases hrp : ∃ d, Γ (tk p) = .rp d
        · obtain ⟨d, hd⟩ := hrp
          have : copyPlace Γ' p = none := by simp only [copyPlace, h.of hd (by simp)]
          simp only [this, h.of hd (by simp)]
          simp only [hd] at hc
          exact hc
        · have hx : ∀ d, Γ (tk p) ≠ .rp d := fun d e => hrp ⟨d, e⟩
          cases hpl : placeOf P Γ p with
          | none =>
            cases hΓ : Γ (tk p) <;> simp only [hΓ, hpl] at hc <;> first | (cases hc; done) | exact absurd hΓ (hx _)
          | some q =>
            simp only [copyPlace_none h hpl, h _ hn, placeOf_mono h hpl]
            simp only [hpl] at hc
            exact hc
  | _ => exact hc
theorem cField_mono (h : Le Γ Γ') {dst f : Nat} {ty : TypeId} {r : SR} (hc : cField P Γ dst ty x f = some r) : cField P Γ' dst ty x f = some r := by
  cases x with
  | tmp p =>
    by_cases hn : Γ (tk p) = .none
    · simp [cField, hn] at hc
    · simp only [cField, h _ hn] at hc ⊢
      cases hΓ : Γ (tk p) <;> simp only [hΓ] at hc ⊢ <;> try exact hc
      case view o π =>
        cases hr : shapeAt P Γ o π with
        | none => simp [hr] at hc
        | some d => rw [shapeAt_eq (h.shapeAt hr)]; exact hc
  | _ => exact hc
theorem cIndexAddr_mono (h : Le Γ Γ') {jj dst : Nat} {ty : TypeId} {i : Operand} {r : SR} (hc : cIndexAddr jj P Γ dst ty x i = some r) : cIndexAddr jj P Γ' dst ty x i = some r := by
  unfold cIndexAddr at hc ⊢
  split at hc
  · rename_i e kk pi hu hi
    simp only [hu, intOf_mono h hi]
    cases x with
    | tmp p =>
      simp only at hc ⊢
      by_cases hn : Γ (tk p) = .none
      · simp [hn] at hc
      · simp only [h _ hn] at hc ⊢
        cases hΓ : Γ (tk p) <;> simp only [hΓ] at hc ⊢ <;> try exact hc
        case v d => cases d <;> exact hc
        case view o π =>
          cases hr : shapeAt P Γ o π with
          | none => simp [hr] at hc
          | some d => rw [shapeAt_eq (h.shapeAt hr), hr]; rw [hr] at hc; exact hc
    | const c =>
      split at hc
      · rename_i h0
        cases h0
        exact hc
      · rename_i h0; cases h0
      · cases hc
    | _ => cases hc
  · cases hc
theorem cIndex_mono (h : Le Γ Γ') {dst : Nat} {ty : TypeId} {i : Operand} {r : SR} (hc : cIndex P Γ dst ty x i = some r) : cIndex P Γ' dst ty x i = some r := by
  unfold cIndex at hc ⊢
  cases hi : intOf Γ i with
  | none => simp [hi] at hc
  | some q =>
    cases hp : plainOf Γ x with
    | none => simp [hp] at hc
    | some q2 => rw [intOf_mono h hi, plainOf_mono h hp]; rw [hi, hp] at hc; exact hc
theorem lenPX_mono (h : Le Γ Γ') : ∀ {b : Bool} {r : PX}, lenPX P Γ x b = some r → lenPX P Γ' x b = some r
  | true, r, hc => by
    unfold lenPX at hc ⊢
    cases hp : plainOf Γ x with
    | none => simp [hp] at hc
    | some q2 => simp only [plainOf_mono h hp]; simp only [hp] at hc; exact hc
  | false, r, hc => by
    unfold lenPX at hc ⊢
    try simp only at hc ⊢
    cases x with
    | tmp p =>
      by_cases hn : Γ (tk p) = .none
      · simp [hn] at hc
      · simp only [h _ hn] at hc ⊢
        cases hΓ : Γ (tk p) <;> simp only [hΓ] at hc ⊢ <;> try exact hc
        case v d => cases d <;> exact hc
        case view o π =>
          cases hr : shapeAt P Γ o π with
          | none => simp [hr] at hc
          | some d => rw [shapeAt_eq (h.shapeAt hr)]; exact hc
    | const c =>
      try simp only at hc ⊢
      split at hc
      · rename_i h0
        cases h0
        exact hc
      · rename_i h0; cases h0
      · cases hc
    | _ => cases hc
theorem lenPX_tmp {b : Bool} {p : Nat} {r : PX} (hc : lenPX P Γ (.tmp p) b = some r) : Γ (tk p) ≠ .none := by
  intro e
  cases b <;> simp [lenPX, e, plainOf] at hc
theorem boundOf_mono (h : Le Γ Γ') {x : Option Operand} {z r : PX} (hc : boundOf Γ x z = some r) : boundOf Γ' x z = some r := by
  unfold boundOf at hc ⊢
  cases x with
  | none => exact hc
  | some y =>
    simp only at hc ⊢
    obtain ⟨q, h1, h2⟩ := Option.map_eq_some_iff.1 hc
    rw [intOf_mono h h1]
    simp [h2]
theorem plainOf_eq {p : Nat} (e : Γ' (tk p) = Γ (tk p)) : plainOf Γ' (.tmp p) = plainOf Γ (.tmp p) := by simp only [plainOf, e]
theorem plainOf_const (x : Operand) (hx : ∀ t, x ≠ .tmp t) : plainOf Γ' x = plainOf Γ x := by
  cases x <;> first | rfl | exact absurd rfl (hx _)
theorem cSlice_mono (h : Le Γ Γ') {dst : Nat} {ty : TypeId} {lo hi mx : Option Operand} {r : SR} (hc : cSlice P Γ dst ty x lo hi mx = some r) : cSlice P Γ' dst ty x lo hi mx = some r := by
  unfold cSlice at hc ⊢
  by_cases hmx : mx.isSome = true
  · simp [hmx] at hc
  simp only [hmx, if_false, Bool.false_eq_true] at hc ⊢
  cases hl : (isStrTy P ty).bind (lenPX P Γ x) with
  | none => simp [hl] at hc
  | some n =>
    obtain ⟨b, h1, h2⟩ := Option.bind_eq_some_iff.1 hl
    have e0 : (isStrTy P ty).bind (lenPX P Γ' x) = some n := by rw [h1]; exact lenPX_mono h h2
    rw [e0]
    rw [hl] at hc
    simp only at hc ⊢
    cases hlo : boundOf Γ lo (.int 0) with
    | none => simp [hlo] at hc
    | some l =>
      cases hhi : boundOf Γ hi n with
      | none => simp [hlo, hhi] at hc
      | some u =>
        rw [boundOf_mono h hlo, boundOf_mono h hhi]
        rw [hlo, hhi] at hc
        simp only at hc ⊢
        cases x with
        | tmp p =>
          have hn := lenPX_tmp h2
          have e1 := h _ hn
          have e2 : shapeAt P Γ' (tk p) ⟨[], none⟩ = shapeAt P Γ (tk p) ⟨[], none⟩ := shapeAt_eq e1
          cases hΓ : Γ (tk p) <;> simp only [plainOf, e1, hΓ, e2] at hc ⊢ <;> try exact hc
          case v d => cases d <;> exact hc
          case view o π =>
            by_cases hpo : π.post.isSome = true
            · simp [hpo] at hc
            · simp only [hpo, if_false, Bool.false_eq_true] at hc ⊢
              cases hr : shapeAt P Γ o ⟨π.pre, none⟩ with
              | none => simp [hr] at hc
              | some d => rw [shapeAt_eq (h.shapeAt hr), hr]; rw [hr] at hc; exact hc
        | _ => exact hc
theorem cBin_mono (h : Le Γ Γ') {dst : Nat} {op : BinOp} {ty : TypeId} {y : Operand} {r : SR} (hc : cBin P Γ dst op ty x y = some r) : cBin P Γ' dst op ty x y = some r := by
  unfold cBin at hc ⊢
  cases hp : plainOf Γ x with
  | none => simp [hp] at hc
  | some q1 =>
    cases hp2 : plainOf Γ y with
    | none => simp [hp, hp2] at hc
    | some q2 => rw [plainOf_mono h hp, plainOf_mono h hp2]; rw [hp, hp2] at hc; exact hc
theorem cUn_mono (h : Le Γ Γ') {dst : Nat} {op : UnOp} {r : SR} (hc : cUn Γ dst op x = some r) : cUn Γ' dst op x = some r := by
  unfold cUn at hc ⊢
  cases hp : plainOf Γ x with
  | none => cases op <;> simp [hp] at hc
  | some q1 => rw [plainOf_mono h hp]; rw [hp] at hc; exact hc
theorem cIsNil_mono (h : Le Γ Γ') {dst : Nat} {op : BinOp} {xt : TypeId} {r : SR} (hc : cIsNil P Γ dst op xt x = some r) : cIsNil P Γ' dst op xt x = some r := by
  unfold cIsNil at hc ⊢
  cases hp : plainOf Γ x with
  | none => cases op <;> cases hu : P.underlying xt <;> simp [hp, hu] at hc
  | some q1 => rw [plainOf_mono h hp]; rw [hp] at hc; exact hc
theorem cConvert_mono (h : Le Γ Γ') {dst : Nat} {s d : TypeId} {r : SR} (hc : cConvert P Γ dst s d x = some r) : cConvert P Γ' dst s d x = some r := by
  unfold cConvert at hc ⊢
  split at hc
  · obtain ⟨q, h1, h2⟩ := Option.map_eq_some_iff.1 hc
    rw [intOf_mono h h1]
    simp [h2]
  · cases hp : plainOf Γ x with
    | none => simp [hp] at hc
    | some q1 => rw [plainOf_mono h hp]; rw [hp] at hc; exact hc
  · rename_i e1 _ _
    cases hl : lend P Γ x with
    | none => cases hu : P.underlying e1 with
      | none => simp [hl, hu] at hc
      | some z => simp [hl, hu] at hc
    | some q1 => rw [(lend_mono h hl).1]; rw [hl] at hc; exact hc
  · cases hc
theorem pinned_tmp {p : Nat} {r : Nat} (hc : pinned Γ (.tmp p) = some r) : Γ (tk p) ≠ .none ∧ Γ r ≠ .none ∧ ∃ π, Γ (tk p) = .view r π := by
  simp only [pinned] at hc
  cases hΓ : Γ (tk p) <;> simp only [hΓ] at hc <;> try cases hc
  rename_i o π
  split at hc
  · cases ho : Γ o <;> simp only [ho] at hc <;> try cases hc
    split at hc
    · simp only [Option.some.injEq] at hc
      subst hc
      exact ⟨by simp, by simp [ho], π, rfl⟩
    · cases hc
  · cases hc
theorem cBox_mono (h : Le Γ Γ') {b dst : Nat} {ty : TypeId} {r : SR} (hc : cBox b P Γ dst ty x = some r) : cBox b P Γ' dst ty x = some r := by
  unfold cBox at hc ⊢
  cases x with
  | tmp p =>
    cases hp : pinned Γ (.tmp p) with
    | some o =>
      obtain ⟨h1, h2, π, h3⟩ := pinned_tmp hp
      have e1 : pinned Γ' (.tmp p) = some o := by
        simp only [pinned, h _ h1, h3] at hp ⊢
        rw [h _ h2]; exact hp
      rw [e1]
      rw [hp] at hc
      simp only at hc ⊢
      rw [shapeAt_eq (h _ h2)]; exact hc
    | none =>
      rw [hp] at hc
      simp only at hc
      obtain ⟨q, h1, h2⟩ := Option.bind_eq_some_iff.1 hc
      have hn : Γ (tk p) ≠ .none := by
        intro e
        simp [take, e] at h1
      have e1 : pinned Γ' (.tmp p) = none := by
        rw [← hp]
        simp only [pinned, h _ hn]
        cases hΓ : Γ (tk p) <;> try rfl
        rename_i o π
        have : Γ' o = Γ o := by
          simp only [take, hΓ] at h1
          cases hr : rootSD Γ o with
          | none => simp [hr] at h1
          | some d => exact h.rootSD hr
        simp only [this]
      rw [e1]
      simp only
      rw [take_mono h h1]
      exact h2
  | _ =>
    simp only [pinned] at hc ⊢
    obtain ⟨q, h1, h2⟩ := Option.bind_eq_some_iff.1 hc
    rw [take_mono h h1]
    exact h2
theorem takes_mono : ∀ {xs : List Operand} {i : Nat} {Γ Γ' : Nat → D} {r : List SD × List MS}, Le Γ Γ' → takes Γ xs i = some r → takes Γ' xs i = some r
  | [], i, Γ, Γ', r, h, hc => hc
  | x :: xs, i, Γ, Γ', r, h, hc => by
    simp only [takes] at hc ⊢
    cases ht : take Γ x (vk i) with
    | none => simp [ht] at hc
    | some q =>
      obtain ⟨d, m⟩ := q
      rw [take_mono h ht]
      rw [ht] at hc
      simp only at hc ⊢
      obtain ⟨q, h1, h2⟩ := Option.map_eq_some_iff.1 hc
      rw [takes_mono (h.apm m) h1]
      simp [h2]
theorem kept_mono (h : Le Γ Γ') {b : Nat} : ∀ {ds : List SD} {i : Nat}, kept Γ b ds i = true → kept Γ' b ds i = true
  | [], i, _ => rfl
  | d :: ds, i, hk => by
    simp only [kept, Bool.and_eq_true, beq_iff_eq] at hk ⊢
    exact ⟨h.of hk.1 (by simp), kept_mono h hk.2⟩
theorem cBuild_mono (h : Le Γ Γ') {b dst : Nat} {ty : TypeId} {ps : Array (Nat × Operand)} {r : SR} (hc : cBuild b P Γ dst ty ps = some r) : cBuild b P Γ' dst ty ps = some r := by
  unfold cBuild at hc ⊢
  split at hc
  · rename_i fs z hu hz
    try simp only [hu, hz]
    cases ht : takes Γ (ps.toList.map (·.2)) b with
    | none => simp [ht] at hc
    | some q =>
      obtain ⟨ds, ms⟩ := q
      rw [takes_mono h ht]
      rw [ht] at hc
      simp only at hc ⊢
      split at hc
      · rename_i d x hg
        split at hc
        · rename_i hcond
          rw [if_pos ?_]
          · exact hc
          · simp only [Bool.and_eq_true] at hcond ⊢
            exact ⟨hcond.1, kept_mono (h.fold ms) hcond.2⟩
        · cases hc
      · cases hc
  · cases hc
theorem cBuildSlice_mono (h : Le Γ Γ') {b dst n : Nat} {ty : TypeId} {ps : Array (Nat × Operand)} {r : SR} (hc : cBuildSlice b P Γ dst ty n ps = some r) : cBuildSlice b P Γ' dst ty n ps = some r := by
  unfold cBuildSlice at hc ⊢
  split at hc
  · rename_i e hu
    split at hc
    · cases hc
    · rename_i hno
      simp only [hu, hno, if_false, Bool.false_eq_true]
      cases ht : takes Γ (ps.toList.map (·.2)) b with
      | none => simp [ht] at hc
      | some q =>
        obtain ⟨ds, ms⟩ := q
        rw [takes_mono h ht]
        rw [ht] at hc
        simp only at hc ⊢
        split at hc
        · rename_i m hm
          try simp only [hm]
          split at hc
          · rename_i hcond
            rw [if_pos ?_]
            · exact hc
            · simp only [Bool.and_eq_true] at hcond ⊢
              obtain ⟨⟨⟨⟨⟨c1, c2⟩, c3⟩, c4⟩, c5⟩, c6⟩ := hcond
              exact ⟨⟨⟨⟨⟨c1, c2⟩, c3⟩, kept_mono (h.fold ms) c4⟩, c5⟩, c6⟩
          · cases hc
        · cases hc
  · cases hc
theorem cMakeSlice_mono (h : Le Γ Γ') {dst : Nat} {ty : TypeId} {l c : Operand} {r : SR} (hc : cMakeSlice P Γ dst ty l c = some r) : cMakeSlice P Γ' dst ty l c = some r := by
  unfold cMakeSlice at hc ⊢
  split at hc
  · rename_i e hu
    split at hc
    · rename_i a b z zx h1 h2 h3
      simp only [intOf_mono h h1, intOf_mono h h2, h3]
      exact hc
    · cases hc
  · cases hc
theorem mapOf_mono (h : Le Γ Γ') {o : Nat} {π : List Nat} {vb : Bool} (hm : mapOf Γ x = some (o, π, vb)) : mapOf Γ' x = some (o, π, vb) ∧ Γ' o = Γ o := by
  unfold mapOf at hm ⊢
  split at hm
  · rename_i t
    split at hm
    · rename_i o' π' hΓ
      split at hm
      · rename_i vb' hsd
        simp only [Option.some.injEq, Prod.mk.injEq] at hm
        obtain ⟨rfl, rfl, rfl⟩ := hm
        obtain ⟨d, hd, _⟩ := Option.bind_eq_some_iff.1 hsd
        have e := h.rootSD hd
        refine ⟨?_, e⟩
        simp only [h.of hΓ (by simp), rootSD_eq e, hsd]
      · cases hm
    · cases hm
  · cases hm
theorem cLookup_mono (h : Le Γ Γ') {dst : Nat} {ty : TypeId} {m : Operand} {ok : Bool} {r : SR} (hc : cLookup P Γ dst ty m x ok = some r) : cLookup P Γ' dst ty m x ok = some r := by
  unfold cLookup at hc ⊢
  split at hc
  · rename_i vb o π vb' k h1 h2 h3
    simp only [h1, (mapOf_mono h h2).1, intOf_mono h h3]
    exact hc
  · cases hc
theorem cMapUpd_mono (h : Le Γ Γ') {b : Nat} {ty : TypeId} {m y : Operand} {r : SR} (hc : cMapUpd b P Γ ty m x y = some r) : cMapUpd b P Γ' ty m x y = some r := by
  unfold cMapUpd at hc ⊢
  split at hc
  · rename_i vb o π vb' k d v h1 h2 h3 h4
    simp only [h1, (mapOf_mono h h2).1, intOf_mono h h3, plainOf_mono h h4, (mapOf_mono h h2).2]
    exact hc
  · cases hc
theorem apMv_mono (h : Le Γ Γ') {k : Nat} {r : SD × MS} (hc : apMv Γ x k = some r) : apMv Γ' x k = some r := by
  cases x with
  | tmp t =>
    by_cases hn : Γ (tk t) = .none
    · simp [apMv, hn] at hc
    · simp only [apMv, h _ hn] at hc ⊢
      cases hΓ : Γ (tk t) <;> simp only [hΓ] at hc ⊢ <;> try exact hc
      case v d => cases d <;> simp only at hc ⊢ <;> first | exact take_mono h hc | exact hc
  | _ => exact hc
theorem apMv_none (h : Le Γ Γ') {k : Nat} {r : SD × PX} (hl : lend P Γ x = some r) (hc : apMv Γ x k = none) : apMv Γ' x k = none := by
  cases x with
  | tmp t =>
    by_cases hn : Γ (tk t) = .none
    · simp [lend, hn] at hl
    · simp only [apMv, h _ hn] at hc ⊢
      cases hΓ : Γ (tk t) <;> simp only [hΓ] at hc ⊢ <;> try exact hc
      case v d =>
        cases d <;> simp only at hc ⊢ <;> try exact hc
        simp [take, hΓ, SD.plain] at hc
  | _ => exact hc
theorem cMin_mono (h : Le Γ Γ') {dst : Nat} {y : Operand} {r : SR} (hc : cMin Γ dst x y = some r) : cMin Γ' dst x y = some r := by
  unfold cMin at hc ⊢
  split at hc
  · rename_i hx hy
    rw [intOf_mono h hx, intOf_mono h hy]
    exact hc
  · cases hc
theorem cAppE_mono (h : Le Γ Γ') {dst : Nat} {ts : Array TypeId} {s : Operand} {r : SR} (hc : cAppE P Γ dst ts s x = some r) : cAppE P Γ' dst ts s x = some r := by
  unfold cAppE at hc ⊢
  split at hc
  · rename_i e t e1 y hu hl
    rw [hu, (lend_mono h hl).1]
    simp only
    split at hc
    · rename_i o π hΓ
      rw [h.of hΓ (by simp)]
      simp only
      split at hc
      · cases hc
      · rename_i hpo
        rw [if_neg hpo]
        cases hs : shapeAt P Γ o π with
        | none => simp [hs] at hc
        | some d =>
          have he := h.shapeAt hs
          rw [shapeAt_eq he, hs]
          rw [hs] at hc
          rw [he]
          exact hc
    · cases hc
  · cases hc
theorem cAppE_none (h : Le Γ Γ') {b dst : Nat} {ts : Array TypeId} {s : Operand} {r : SR} (hc : (if (sameTwo ts).isSome then cAppend b P Γ dst ts s x else cAppendS b P Γ dst ts s x) = some r) : cAppE P Γ' dst ts s x = none := by
  cases hr : cAppE P Γ' dst ts s x with
  | none => rfl
  | some r' =>
    exfalso
    unfold cAppE at hr
    split at hr
    · rename_i e t e1 y hu hl
      split at hr
      · rename_i o π hΓ
        split at hr
        · cases hr
        · rename_i hpo
          obtain ⟨tt, h1, _⟩ := Option.bind_eq_some_iff.1 hu
          rw [if_pos (by rw [h1]; rfl)] at hc
          unfold cAppend at hc
          cases ht : take Γ (.tmp t) (vk b) with
          | none => simp [ht] at hc
          | some z =>
            by_cases hz : Γ (tk t) = .none
            · simp [take, hz] at ht
            · rw [h _ hz] at hΓ
              simp [take, hΓ] at ht
              exact hpo (by simpa using ht.1.1)
      · cases hr
    · cases hr
theorem cCopy_mono (h : Le Γ Γ') {b dst : Nat} {ts : Array TypeId} {d : Operand} {r : SR} (hc : cCopy b P Γ dst ts d x = some r) : cCopy b P Γ' dst ts d x = some r := by
  unfold cCopy at hc ⊢
  split at hc
  · rename_i e p e' y hu hl
    rw [hu, (lend_mono h hl).1]
    simp only
    split at hc
    · rename_i o π hΓ
      rw [h.of hΓ (by simp)]
      simp only
      split at hc
      · rename_i e2 m hsh
        have he := h.shapeAt hsh
        rw [shapeAt_eq he, hsh]
        simp only
        rw [he]
        exact hc
      · cases hc
    · cases hc
  · cases hc
theorem cAppend_mono (h : Le Γ Γ') {b dst : Nat} {ts : Array TypeId} {s : Operand} {r : SR} (hc : cAppend b P Γ dst ts s x = some r) : cAppend b P Γ' dst ts s x = some r := by
  unfold cAppend at hc ⊢
  split at hc
  · rename_i e d0 m0 hu ht
    simp only [hu, take_mono h ht]
    have h1 := h.apm m0
    split at hc
    · rename_i e1 m m1 hmv
      rw [apMv_mono h1 hmv]
      simp only
      split at hc
      · rename_i hcond
        rw [if_pos ?_]
        · exact hc
        · simp only [Bool.and_eq_true, beq_iff_eq] at hcond ⊢
          obtain ⟨⟨⟨c1, c2⟩, c3⟩, c4⟩ := hcond
          exact ⟨⟨⟨c1, c2⟩, c3⟩, (h1.apm m1).of c4 (by simp)⟩
      · cases hc
    · cases hc
    · rename_i hmv
      cases hl : lend P (apm Γ m0) x with
      | none => simp [hl] at hc
      | some q =>
        rw [apMv_none h1 hl hmv]
        simp only
        rw [(lend_mono h1 hl).1, (lend_mono h1 hl).2]
        rw [hl] at hc
        exact hc
  · cases hc
theorem cAppendS_mono (h : Le Γ Γ') {b dst : Nat} {ts : Array TypeId} {s : Operand} {r : SR} (hc : cAppendS b P Γ dst ts s x = some r) : cAppendS b P Γ' dst ts s x = some r := by
  unfold cAppendS at hc ⊢
  split at hc
  · rename_i t u hts
    split at hc
    · rename_i e d0 m0 h1 h2 ht
      simp only [h1, h2, take_mono h ht]
      have h3 := h.apm m0
      cases hp : plainOf (apm Γ m0) x with
      | none => simp [hp] at hc
      | some q => rw [plainOf_mono h3 hp]; rw [hp] at hc; exact hc
    · cases hc
  · cases hc
theorem cS2B_mono (h : Le Γ Γ') {dst : Nat} {s t : TypeId} {r : SR} (hc : cS2B P Γ dst s t x = some r) : cS2B P Γ' dst s t x = some r := by
  unfold cS2B at hc ⊢
  split at hc
  · rename_i e h1 h2
    cases hp : plainOf Γ x with
    | none => cases hu : P.underlying e <;> simp [hp, hu] at hc
    | some q => rw [plainOf_mono h hp]; rw [hp] at hc; exact hc
  · cases hc
theorem cNil_mono (h : Le Γ Γ') {dst : Nat} {r : SR} (hc : cNil Γ dst x = some r) : cNil Γ' dst x = some r := by
  cases x with
  | tmp t =>
    by_cases hn : Γ (tk t) = .none
    · simp [cNil, hn] at hc
    · simp only [cNil, h _ hn] at hc ⊢
      cases hΓ : Γ (tk t) with
      | v d => rw [hΓ] at hc; cases d <;> first | exact hc | (cases hc; done)
      | _ => simp only [hΓ] at hc ⊢; first | exact cMove_mono h hc | exact hc
  | _ => exact hc
theorem cExtract_mono (h : Le Γ Γ') {dst i : Nat} {r : SR} (hc : cExtract Γ dst x i = some r) : cExtract Γ' dst x i = some r := by
  cases x with
  | tmp t =>
    by_cases hn : Γ (tk t) = .none
    · simp [cExtract, hn] at hc
    · simp only [cExtract, h _ hn] at hc ⊢
      cases hΓ : Γ (tk t) <;> simp only [hΓ] at hc ⊢ <;> try exact hc
      rename_i ks
      cases hk : ks[i]? with
      | none => simp [hk] at hc
      | some k =>
        simp only [hk] at hc ⊢
        by_cases hb : Nat.beq k (tk dst) = true
        · simp [hb] at hc
        · simp only [hb, if_false, Bool.false_eq_true] at hc ⊢
          by_cases hk0 : Γ k = .none
          · simp [hk0] at hc
          · rw [h _ hk0]; exact hc
  | _ => exact hc
theorem cPick_mono (h : Le Γ Γ') {dst : Nat} {c y : Operand} {r : SR} (hc : cPick Γ dst c x y = some r) : cPick Γ' dst c x y = some r := by
  cases c with
  | tmp t =>
    simp only [cPick] at hc ⊢
    split at hc
    · rename_i d1 a d2 b h1 h2 h3
      simp only [h.of h1 (by simp), plainOf_mono (h.under _ _) h2, plainOf_mono (h.under _ _) h3]
      exact hc
    · cases hc
  | _ => exact hc
end
end Go.Rsc
