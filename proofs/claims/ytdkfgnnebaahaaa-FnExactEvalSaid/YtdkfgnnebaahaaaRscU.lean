/- What a call hands on, and what it leaves. No conditions. -/
import Derived.Test.YtdkfgnnebaahaaaRscTa
namespace Go.Rsc
open Go.RowKit
set_option linter.unusedVariables false
set_option linter.unusedSimpArgs false

/-- Memory is handed on to be written. -/
def ownM : PM → Bool
  | .mv _ | .ref _ _ _ | .mut _ => true
  | _ => false
/-- .. and comes back. -/
def backM : PM → Bool
  | .ref _ _ _ | .mut _ => true
  | _ => false

section
variable (P : Program) (w : World) (F : Set)
/-- A box: its block, and what its cells hold. -/
def IsBox (t : TypeId) (d : SD) (v : Value) (p : PV) (T : Set) : Prop := ∃ b arr T0, v = .pointer (some ⟨b, 0, none⟩) ∧ w.heap[b]? = some (.cells arr t (0, 0)) ∧ T b ∧ (∀ x, T0 x → T x ∧ x ≠ b) ∧ R P w F d arr.toList p T0
def PArg : PM → Value → PV → Set → Prop
  | .ro d, v, p, _ => ∃ cs, Fits d v cs ∧ R P w F d cs p Set.none
  | .rp d, v, p, _ => ∃ ad cs, v = .pointer (some ad) ∧ cs.length = d.sz ∧ CellsAt w F (some ad) 0 cs ∧ R P w F d cs p Set.none
  | .mv d, v, p, T | .mut d, v, p, T => ∃ cs, Fits d v cs ∧ R P w F d cs p T
  | .ref t d _, v, p, T => IsBox P w F t d v p T
  | .clo _ _, _, _, _ => True
def POut : PM → Value → PV → Set → Prop
  | .ref t _ d', v, p, T => IsBox P w F t d' v p T
  | .mut d, v, p, T => ∃ cs, Fits d v cs ∧ R P w F d cs p T
  | _, _, _, _ => True
def RRes : RM → Value → PV → Set → Prop
  | .v d, v, p, T => ∃ cs, Fits d v cs ∧ R P w F d cs p T
  | .bx t d, v, p, T => IsBox P w F t d v p T
end

/-- What comes in. -/
structure CIn (P : Program) (w : World) (F : Set) (ps : List PM) (V : Nat → Value) (X : Nat → PV) (T : Nat → Set) : Prop where
  arg : ∀ m pm, (m, pm) ∈ flatP ps 0 → PArg P w F pm (V m) (X m) (T m)
  clo : ∀ (i : Nat) f cs, ps[i]? = some (.clo f cs) → V i = .func (.func (f % 4096)) #[] ((List.range cs.length).map fun j => V (capN i + j)).toArray
  non : ∀ m, (∀ pm, (m, pm) ∈ flatP ps 0 → ownM pm = false) → ∀ b, ¬ T m b
  dj : ∀ m m' b, T m b → T m' b → m = m'
  sF : ∀ m b, T m b → F b → False
  sz : ∀ m b, T m b → b < w.heap.size
  fz : ∀ b, F b → b < w.heap.size
  kp : Kp P w F

def handed (T : Nat → Set) : Set := fun b => ∃ m, T m b
def outNs (ps : List PM) : List Nat := ((flatP ps 0).filter fun q => backM q.2).map (·.1)
def retV (rvs : List Value) : Value := match rvs with
  | [v] => v
  | _ => .tuple rvs.toArray

/-- What is left. -/
structure COut (P : Program) (w w' : World) (F : Set) (ps : List PM) (rs : List RM) (V : Nat → Value) (T : Nat → Set) (X' : Nat → PV) (T' : Nat → Set) (rvs : List Value) (rps : List PV) (U : Nat → Set) : Prop where
  lv : rvs.length = rs.length
  lp : rps.length = rs.length
  res : ∀ (j : Nat) rm, rs[j]? = some rm → RRes P w' F rm (rvs.getD j undef) (rps.getD j .unit) (U j)
  arg : ∀ m pm, (m, pm) ∈ flatP ps 0 → POut P w' F pm (V m) (X' m) (T' m)
  non : ∀ m, (∀ pm, (m, pm) ∈ flatP ps 0 → backM pm = false) → ∀ b, ¬ T' m b
  dU : ∀ j j' b, U j b → U j' b → j = j'
  dT : ∀ m m' b, T' m b → T' m' b → m = m'
  dUT : ∀ j m b, U j b → T' m b → False
  nU : ∀ j b, U j b → (handed T b ∨ w.heap.size ≤ b) ∧ b < w'.heap.size
  nT : ∀ m b, T' m b → (handed T b ∨ w.heap.size ≤ b) ∧ b < w'.heap.size
  ext : Ext w (handed T) w'

/-- What is only read, at the end: it was so, or was handed on, or is new. -/
structure Grow (w w' : World) (F F' : Set) (T T' U : Nat → Set) : Prop where
  fF : ∀ b, F b → F' b
  fN : ∀ b, F' b → F b ∨ handed T b ∨ w.heap.size ≤ b
  fL : ∀ b, F' b → b < w'.heap.size
  fU : ∀ j b, U j b → F' b → False
  fT : ∀ m b, T' m b → F' b → False
theorem Grow.same {P : Program} {w w' : World} {F F' : Set} {ps : List PM} {rs : List RM} {V : Nat → Value} {X' : Nat → PV} {T T' : Nat → Set} {rvs : List Value} {rps : List PV} {U : Nat → Set} (co : COut P w w' F' ps rs V T X' T' rvs rps U)
    (hsF : ∀ m b, T m b → F b → False) (hfz : ∀ b, F b → b < w.heap.size) : Grow w w' F F T T' U :=
  have key : ∀ b, (handed T b ∨ w.heap.size ≤ b) → F b → False := fun b hb hf => hb.elim (fun ⟨m, h⟩ => hsF m b h hf) (fun h => by have := hfz b hf; omega)
  ⟨fun _ h => h, fun _ h => .inl h, fun b h => Nat.lt_of_lt_of_le (hfz b h) co.ext.size, fun j b h => key b (co.nU j b h).1, fun m b h => key b (co.nT m b h).1⟩

/-- What a function is held to. -/
def Ctr (P : Program) (s : Sig) (f : FuncId) (args os : List PV) : Prop :=
  ∀ (w : World) (F : Set) (V : Nat → Value) (X : Nat → PV) (T : Nat → Set), CIn P w F s.ps V X T → args = (flatP s.ps 0).map (fun q => X q.1) →
    Calls P f ((List.range s.ps.length).map V).toArray w fun e w' => ∃ F' X' T' rvs rps U, e = .returned (retV rvs) ∧ Grow w w' F F' T T' U ∧ COut P w w' F' s.ps s.rs V T X' T' rvs rps U ∧ os = rps ++ (outNs s.ps).map X'

/-- .. where nothing more is only read. -/
theorem Ctr.same {P : Program} {s : Sig} {f : FuncId} {args os : List PV} (h : ∀ (w : World) (F : Set) (V : Nat → Value) (X : Nat → PV) (T : Nat → Set), CIn P w F s.ps V X T → args = (flatP s.ps 0).map (fun q => X q.1) →
    Calls P f ((List.range s.ps.length).map V).toArray w fun e w' => ∃ X' T' rvs rps U, e = .returned (retV rvs) ∧ COut P w w' F s.ps s.rs V T X' T' rvs rps U ∧ os = rps ++ (outNs s.ps).map X') : Ctr P s f args os :=
  fun w F V X T cin ha => (h w F V X T cin ha).mono fun e w' ⟨X', T', rvs, rps, U, he, hc, ho⟩ => ⟨F, X', T', rvs, rps, U, he, Grow.same hc cin.sF cin.fz, hc, ho⟩

section
variable {P : Program} {w w' : World} {F F' : Set} {Γ : Nat → D} {σ : Nat → PV} {val : Nat → Value} {loc : Nat → Nat} {S : Nat → Set} {C : Cx} {tmps : Array Value}
variable {d d' x y : SD} {cs c : List Value} {p q : PV} {T T' : Set}

theorem R.more (h : R P w F d cs p T) {F' : Set} (hF : ∀ b, F b → F' b) : R P w F' d cs p T := h.imp hF (fun _ h => h) (fun _ _ => rfl)
theorem IsBox.more {t : TypeId} {v : Value} (h : IsBox P w F t d v p T) {F' : Set} (hF : ∀ b, F b → F' b) : IsBox P w F' t d v p T := by
  obtain ⟨b, arr, T0, h1, h2, h3, h4, h5⟩ := h
  exact ⟨b, arr, T0, h1, h2, h3, h4, h5.more hF⟩
theorem PArg.more {pm : PM} {v : Value} (h : PArg P w F pm v p T) {F' : Set} (hF : ∀ b, F b → F' b) : PArg P w F' pm v p T := by
  cases pm with
  | ro d => obtain ⟨cs, h1, h2⟩ := h; exact ⟨cs, h1, h2.more hF⟩
  | rp d => obtain ⟨ad, cs, h1, h2, h3, h4⟩ := h; exact ⟨ad, cs, h1, h2, h3.imp hF (fun _ _ => rfl), h4.more hF⟩
  | mv d => obtain ⟨cs, h1, h2⟩ := h; exact ⟨cs, h1, h2.more hF⟩
  | «mut» d => obtain ⟨cs, h1, h2⟩ := h; exact ⟨cs, h1, h2.more hF⟩
  | ref t d d' => exact IsBox.more h hF
  | clo => trivial

theorem Fits.uniq {v : Value} {cs cs' : List Value} (h : Fits d v cs) (h' : Fits d v cs') : cs = cs' := by
  rcases h with ⟨h1, rfl⟩ | ⟨h1, rfl⟩ <;> rcases h' with ⟨h2, e⟩ | ⟨h2, e⟩
  · simpa using e
  · rw [h1] at h2; cases h2
  · rw [h1] at h2; cases h2
  · exact e.symm

/-- The tree of a root, where something was put. -/
def putAt (p : PV) (π : Pth) (j : Nat) (q : PV) : PV := match π.post with
  | none => p.put π.pre q
  | some φ => p.put π.pre (.list ((p.get π.pre).toList.set j (((p.get π.pre).toList.getD j .unit).put φ q)))
noncomputable def newTree (σ : Nat → PV) (k : Nat) (r : Option (Pth × PX)) (q : PV) : PV := match r with
  | none => q
  | some (π, dyn) => putAt (σ k) π (dyn.eval σ []).toInt.toNat q

def srcV (tmps : Array Value) (val : Nat → Value) : Src → Value
  | .op x => evalOp tmps x
  | .key k => val k
def argV (tmps : Array Value) (val : Nat → Value) (b m : Nat) : PM → Src → Value
  | .mv _, _ => val (vk (b + m))
  | _, s => srcV tmps val s

/-- What comes back to a root. -/
def Back (P : Program) (w : World) (F : Set) (σ : Nat → PV) (val : Nat → Value) (loc : Nat → Nat) (S : Nat → Set) (pm : PM) (v : Value) (T : Set) (k : Nat) (D : Rsc.D) (r : Option (Pth × PX)) : Prop :=
  ∀ {w' : World} {F' T' : Set} {q : PV} {Γ' : Nat → Rsc.D} {σ' : Nat → PV} {val' : Nat → Value} {loc' : Nat → Nat} {S' : Nat → Set}, POut P w' F' pm v q T' → (∀ b, F b → F' b) → (∀ b, F b → w'.heap[b]? = w.heap[b]?) → (∀ b, S k b → ¬ T b → w'.heap[b]? = w.heap[b]?) →
    (∀ b, T' b → S k b → T b) → σ' k = newTree σ k r q → val' k = val k → loc' k = loc k → (∀ b, (S k b ∧ ¬ T b) ∨ T' b → S' k b) → Ok P w' F' Γ' σ' val' loc' S' k D

theorem cPlace_rp (h : RelX C Γ σ val loc S F tmps w) {o j : Nat} {π : Pth} {base : Option Nat} {b off : Nat} {x : SD} {c : List Value} {dr : SD} {F1 : Set} (hr : Root w Γ val loc S o d cs base) (hs : Sub C.P w (S o) d cs base π j x c (some (b, off))) (hc : coe x.ro dr = true) (hF : ∀ b, F b → F1 b) (hS : ∀ b, S o b → F1 b) :
    PArg C.P w F1 (.rp dr) (.pointer (some ⟨b, off, none⟩)) (getAt (σ o) π j) Set.none := by
  obtain ⟨T, hR, hT⟩ := h.subR hr hs
  refine ⟨⟨b, off, none⟩, c, rfl, ?_, fun i u hu => ⟨_, rfl, ?_, by rw [Nat.zero_add, add_off]; exact hs.cells hr i u hu⟩, (hR.toRo hF (fun b hb => hS b (hT b hb))).coe hc⟩
  · rw [hR.len, coe_sz hc, SD.ro_sz]
  · show F1 b
    refine hS b ?_
    unfold Sub at hs
    cases hp : π.post with
    | none =>
      simp only [hp] at hs
      rcases hr with ⟨_, _, rfl⟩ | ⟨t, arr, _, _, a3, _, rfl⟩
      · simp at hs
      · obtain ⟨_, _, e⟩ := hs
        simp only [Option.map_some, Option.some.injEq, Prod.mk.injEq] at e
        rw [e.1]; exact a3
    | some φ =>
      simp only [hp] at hs
      obtain ⟨e, m, b', n, cap, arr, _, _, _, h4, _, _, _, e2⟩ := hs
      simp only [Option.some.injEq, Prod.mk.injEq] at e2
      rw [e2.1]; exact h4

theorem cRp_ok (h : RelX C Γ σ val loc S F tmps w) {dr : SD} {s : Src} {a : AR} (hc : cRp C.P Γ dr s = some a) : PArg C.P w (fun b => F b ∨ lentOf S a.lent b) (.rp dr) (srcV tmps val s) (a.arg.eval σ []) Set.none ∧ a.own = [] ∧ a.root = none := by
  have key : ∀ (k : Nat) (px : PX), val k = srcV tmps val s → srcD Γ s = Γ k → srcPX s = px → px.eval σ [] = σ k → PArg C.P w (fun b => F b ∨ lentOf S a.lent b) (.rp dr) (val k) (a.arg.eval σ []) Set.none ∧ a.own = [] ∧ a.root = none := by
    intro k px hv hd hpx hev
    have hok := h.ok k
    unfold cRp at hc
    rw [hd] at hc
    split at hc
    · rename_i d' hΓ
      rw [hΓ] at hok
      split at hc
      · rename_i hcoe
        simp only [Option.some.injEq] at hc
        subst hc
        obtain ⟨ad, cs, h1, h2, h3, h4⟩ := hok
        refine ⟨⟨ad, cs, h1, by rw [h2, coe_sz hcoe], h3.imp (fun b hb => .inl hb) (fun _ _ => rfl), ?_⟩, rfl, rfl⟩
        show R C.P w _ dr cs (PX.eval σ [] (srcPX s)) Set.none
        rw [hpx, hev]
        exact (h4.more (fun b hb => .inl hb)).coe hcoe
      · cases hc
    · rename_i o hΓ
      rw [hΓ] at hok
      split at hc
      · rename_i t d0 hΓo
        split at hc
        · rename_i hcoe
          simp only [Option.some.injEq] at hc
          subst hc
          have hko := h.ok o
          rw [hΓo] at hko
          obtain ⟨arr, T, a1, a2, a3, a4⟩ := hko
          refine ⟨?_, rfl, rfl⟩
          rw [hok.1]
          refine cPlace_rp h (o := o) (π := ⟨[], none⟩) (j := 0) (.inr ⟨t, arr, hΓo, a1, a2, rfl, rfl⟩) (x := d0) (c := arr.toList) ?_ hcoe (fun b hb => .inl hb) (fun b hb => .inr ⟨o, by simp, hb⟩)
          unfold Sub
          simp only [SD.get, SD.off, List.drop_zero, Option.map_some, true_and, and_true]
          rw [← a4.len, List.take_length]
        · cases hc
      · cases hc
    · rename_i o π hΓ
      rw [hΓ] at hok
      split at hc
      · rename_i x hsh
        split at hc
        · rename_i hcoe
          simp only [Option.some.injEq] at hc
          subst hc
          obtain ⟨⟨d1, cs, base, x1, c, b, off, g1, g2, g3⟩, g4⟩ := hok
          rw [g2.shape g1] at hsh
          simp only [Option.some.injEq] at hsh
          subst hsh
          refine ⟨?_, rfl, rfl⟩
          rw [g3]
          show PArg _ _ _ _ _ ((getPX o π (srcPX s)).eval σ []) _
          rw [getPX_eval, hpx, hev]
          exact cPlace_rp h g1 g2 hcoe (fun b hb => .inl hb) (fun b hb => .inr ⟨o, by simp, hb⟩)
        · cases hc
      · cases hc
    · cases hc
  cases s with
  | key k => exact key k (.k k) rfl rfl rfl rfl
  | op x =>
    cases x with
    | tmp t =>
      have := key (tk t) (.k (tk t)) (h.tm t) rfl rfl rfl
      rwa [show val (tk t) = srcV tmps val (.op (.tmp t)) from h.tm t] at this
    | _ => simp [cRp, srcD] at hc
end
end Go.Rsc
