/- What comes back of a call holds nothing that was lent. No conditions. -/
import Derived.Test.YtdkfgnnebaahaaaRscX
namespace Go.Rsc
open Go.RowKit
set_option linter.unusedVariables false
set_option linter.unusedSimpArgs false

section
variable {P : Program} {w w' : World} {F F' : Set} {Γ : Nat → D} {σ : Nat → PV} {val : Nat → Value} {loc : Nat → Nat} {S : Nat → Set} {C : Cx} {tmps : Array Value}
variable {d d' x y : SD} {cs c : List Value} {p q : PV} {T T' : Set}

theorem noB_fold {f : Field → SD} : ∀ (l : List Field), (∀ x ∈ l, noB P (f x) = true) → noB P (l.foldr (fun x acc => .sc (f x) acc) .sn) = true
  | [], _ => rfl
  | a :: l, h => by
    simp only [List.foldr_cons, noB, Bool.and_eq_true]
    exact ⟨h a (by simp), noB_fold l (fun x hx => h x (by simp [hx]))⟩
theorem fp_none (h : fpTs.isEmpty = true) (e : TypeId) : isFp e = false := by
  unfold isFp
  rw [List.isEmpty_iff.1 h]
  rfl
theorem noB_own (hP : ptOk P = true) : ∀ (n : Nat) (t : TypeId), (ptClo P n t = true ∨ fpTs.isEmpty = true) → noB P (sdT P true n t) = true
  | 0, t, _ => rfl
  | n + 1, t, h => by
    unfold sdT
    unfold ptClo at h
    cases hu : P.underlying t with
    | none => rfl
    | some x =>
      rw [hu] at h
      cases x <;> try rfl
      case slice e =>
        have : inPt e = true := by
          rcases h with h | h
          · exact h
          · unfold inPt; rw [h]; rfl
        simp [noB, this, hP]
      case struct fs => exact noB_fold _ fun f hf => noB_own hP n f.type (h.imp_left fun h => List.all_eq_true.1 h f hf)
      case pointer e =>
        have : isFp e = false := by
          rcases h with h | h
          · simpa using h
          · exact fp_none h e
        simp [this, noB]
theorem noB_flat : ∀ (n : Nat) (t : TypeId), hasSl P n t = false → (ptClo P n t = true ∨ fpTs.isEmpty = true) → noB P (sdT P false n t) = true
  | 0, t, _, _ => rfl
  | n + 1, t, h, h' => by
    unfold sdT
    unfold hasSl at h
    unfold ptClo at h'
    cases hu : P.underlying t with
    | none => rfl
    | some x =>
      rw [hu] at h'
      cases x <;> try rfl
      case slice e => simp [hu] at h
      case struct fs =>
        simp only [hu] at h
        exact noB_fold _ fun f hf => noB_flat n f.type (by
          have := List.any_eq_false.1 h f hf
          simpa using this) (h'.imp_left fun h => List.all_eq_true.1 h f hf)
      case pointer e =>
        have : isFp e = false := by
          rcases h' with h | h
          · simpa using h
          · exact fp_none h e
        simp [this, noB]
theorem noB_el {e : TypeId} {m : Bool} (h : noB P (.own e m) = true) : noB P (el P m e) = true := by
  simp only [noB, Bool.and_eq_true, Bool.or_eq_true] at h
  obtain ⟨h1, h2, h3⟩ := h
  have hc : ptClo P 8 e = true ∨ fpTs.isEmpty = true := by
    unfold inPt at h2
    unfold ptOk at h3
    simp only [Bool.or_eq_true] at h2 h3
    rcases h2 with h2 | h2
    · exact .inr h2
    · rcases h3 with h3 | h3
      · exact .inr h3
      · obtain ⟨e', he', hb⟩ := List.any_eq_true.1 h2
        have := beq_iff.1 hb
        subst this
        exact .inl (List.all_eq_true.1 h3 _ he')
  cases m with
  | true => exact noB_own h3 8 e hc
  | false => exact noB_flat 8 e (by simpa using h1) hc
theorem R.lessF (h : R P w F d cs p T) : noB P d = true → ∀ F' : Set, R P w F' d cs p T := by
  induction h with
  | int => intros; exact .int ..
  | bool => intros; exact .bool ..
  | str => intros; exact .str ..
  | dead n cs p S h => intros; exact .dead _ _ _ _ h
  | nl => intros; exact .nl _
  | onil => intros; exact .onil ..
  | mz => intros; exact .mz _
  | mp vb b es clk ps S h1 h2 h3 => intros; exact .mp vb b es clk ps S h1 h2 h3
  | sb e b n c arr fr ps S h1 h2 h3 h4 h5 h6 h7 h8 h9 => intros; exact .sb e b n c arr fr ps S h1 h2 h3 h4 h5 h6 h7 h8 h9
  | inil => intros; exact .inil _
  | isome => intros; exact .isome ..
  | sn => intros; exact .sn _
  | bor => intro h; simp [noB] at h
  | np => intros; exact .np _
  | fnil | fp | frec => intro h; simp [noB] at h
  | own e m b n c arr ps S Ss h1 h2 h3 h4 h5 h6 h7 h8 h9 h10 h11 ih =>
    intro hb F'
    exact .own e m b n c arr ps S Ss h1 h2 h3 h4 h5 h6 h7 h8 h9 h10 (fun j p hp => ih j p hp (noB_el hb) F')
  | sc d ds c cs p ps S S1 S2 _ _ h3 h4 h5 ih1 ih2 =>
    intro hb F'
    simp only [noB, Bool.and_eq_true] at hb
    exact .sc d ds c cs p ps S S1 S2 (ih1 hb.1 F') (ih2 hb.2 F') h3 h4 h5
theorem POut.lessF {pm : PM} {v : Value} (h : POut P w F pm v p T) (hb : outOk P pm = true) (F' : Set) : POut P w F' pm v p T := by
  cases pm with
  | ref t d d' =>
    obtain ⟨b, arr, T0, h1, h2, h3, h4, h5⟩ := h
    exact ⟨b, arr, T0, h1, h2, h3, h4, h5.lessF hb F'⟩
  | «mut» d =>
    obtain ⟨cs, h1, h2⟩ := h
    exact ⟨cs, h1, h2.lessF hb F'⟩
  | _ => trivial
theorem RRes.lessF {rm : RM} {v : Value} (h : RRes P w F rm v p T) (hb : noB P rm.sd = true) (F' : Set) : RRes P w F' rm v p T := by
  cases rm with
  | v d => obtain ⟨cs, h1, h2⟩ := h; exact ⟨cs, h1, h2.lessF hb F'⟩
  | bx t d =>
    obtain ⟨b, arr, T0, h1, h2, h3, h4, h5⟩ := h
    exact ⟨b, arr, T0, h1, h2, h3, h4, h5.lessF hb F'⟩
/-- What comes back, seen without what was lent. -/
theorem COut.lessF {ps : List PM} {rs : List RM} {V : Nat → Value} {X' : Nat → PV} {TT T' : Nat → Set} {rvs : List Value} {rps : List PV} {U : Nat → Set} (h : COut P w w' F ps rs V TT X' T' rvs rps U)
    (hb : (rs.all (fun r => noB P r.sd) && (flatP ps 0).all fun q => outOk P q.2) = true) (F' : Set) : COut P w w' F' ps rs V TT X' T' rvs rps U := by
  simp only [Bool.and_eq_true, List.all_eq_true] at hb
  exact { h with
    res := fun j rm hj => (h.res j rm hj).lessF (hb.1 rm (List.mem_of_getElem? hj)) F'
    arg := fun m pm hm => (h.arg m pm hm).lessF (hb.2 _ hm) F' }

/-- .. and without change where nothing was lent. -/
theorem COut.sameF {ps : List PM} {rs : List RM} {V : Nat → Value} {X' : Nat → PV} {TT T' : Nat → Set} {rvs : List Value} {rps : List PV} {U : Nat → Set} (h : COut P w w' (fun b => F b ∨ lentOf S [] b) ps rs V TT X' T' rvs rps U) : COut P w w' F ps rs V TT X' T' rvs rps U := by
  have : (fun b => F b ∨ lentOf S [] b) = F := by
    funext b
    simp [lentOf]
  rw [this] at h
  exact h
end
end Go.Rsc
