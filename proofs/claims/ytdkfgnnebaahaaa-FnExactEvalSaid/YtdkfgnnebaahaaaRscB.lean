/- What is known of a frame's temporaries and of the memory that it owns, and that a step elsewhere keeps it. No conditions. -/
import Derived.Test.YtdkfgnnebaahaaaRscA
import Derived.Lib.LaidTab
import Derived.Lib.ItoaNum
namespace Go.Rsc
open Go.RowKit
set_option linter.unusedVariables false


/-- A temporary; the box that an operation made; an element of a tuple in a temporary. -/
def tk (i : Nat) : Nat := 64 * i
def bk (i : Nat) : Nat := 64 * i + 1
def ek (i j : Nat) : Nat := 64 * i + 2 + j

theorem tk_inj {i j : Nat} (h : tk i = tk j) : i = j := by unfold tk at h; omega

/-- A place in what a key holds: fields; then, if there is 'post', an element of an owned row (its number comes at run time) and fields of that. -/
structure Pth where
  pre : List Nat
  post : Option (List Nat)
  deriving DecidableEq, Repr, Inhabited

inductive D where
  | none
  | v (d : SD)
  | box (t : TypeId) (d : SD)
  | view (o : Nat) (π : Pth)
  | tr (o : Nat) (π : List Nat)
  | sl (o : Nat) (π : List Nat)
  | bp (o : Nat)
  | ptr (o : Nat) (π : Pth)
  | rp (d : SD)
  | tup (ks : List Nat)
  | clo (f : FuncId) (caps : List Nat)
  | cb (o : Nat) (t : TypeId)
  | cptr (o r : Nat) (t : TypeId) (π : List Nat)
  | ap (o : Nat) (π : Pth)
  | eb (o : Nat)
  | ebx (o : Nat)
  | fb (t : TypeId)
  | gv (g : Nat) (b : Bool) (d : D)
  deriving DecidableEq, Repr, Inhabited

namespace D
/-- What must stay as it is for this to stay. -/
def roots : D → List Nat
  | .view o _ | .tr o _ | .sl o _ | .ptr o _ | .ap o _ => [o]
  | .cb r _ | .cptr _ r _ _ => [r]
  | .gv _ _ d => d.roots
  | _ => []
/-- Of these, where elements of an owned row are meant. -/
def deep : D → List Nat
  | .view o π | .ptr o π => if π.post.isSome then [o] else []
  | .cptr o _ _ _ | .ap o _ => [o]
  | .gv g _ d => g :: d.deep
  | _ => []
/-- What must stay at its place: a box, a value. -/
def weak : D → List Nat
  | .bp o | .cptr o _ _ _ | .eb o | .ebx o => [o]
  | .clo _ ks | .tup ks => ks
  | .gv _ _ d => d.weak
  | _ => []
/-- Memory is owned behind it. -/
def owns : D → Bool
  | .v _ | .box _ _ | .cb _ _ | .ap _ _ | .ebx _ | .fb _ => true
  | .gv _ _ d => d.owns
  | _ => false
def isBox : D → Bool
  | .box _ _ => true
  | _ => false
def isRoot : D → Bool
  | .v _ | .box _ _ => true
  | _ => false
end D

/-- A value in a temporary, as cells of a shape. -/
def Fits (d : SD) (v : Value) (cs : List Value) : Prop := (d.isAgg = true ∧ v = .agg cs.toArray) ∨ (d.isAgg = false ∧ cs = [v])

theorem Fits.cells {d : SD} {v : Value} {cs : List Value} (h : Fits d v cs) (hr : d.isAgg = false → ∀ c, v ≠ .agg c) : v.cells.toList = cs := by
  rcases h with ⟨_, rfl⟩ | ⟨h, rfl⟩
  · simp [Value.cells]
  · cases v <;> first | rfl | (exact absurd rfl (hr h _))

section
variable (P : Program) (w : World) (F : Set) (Γ : Nat → D) (σ : Nat → PV) (val : Nat → Value) (loc : Nat → Nat) (S : Nat → Set)

/-- The cells of a root, its shape, and its block if it is a box. -/
def Root (o : Nat) (d : SD) (cs : List Value) (base : Option Nat) : Prop :=
  (Γ o = .v d ∧ Fits d (val o) cs ∧ base = none) ∨
  (∃ t arr, Γ o = .box t d ∧ w.heap[loc o]? = some (.cells arr t (0, 0)) ∧ S o (loc o) ∧ cs = arr.toList ∧ base = some (loc o))

/-- The cells at a place in a root. -/
def Sub (T : Set) (d : SD) (cs : List Value) (base : Option Nat) (π : Pth) (j : Nat) (x : SD) (c : List Value) (ad : Option (Nat × Nat)) : Prop :=
  match π.post with
  | none => d.get π.pre = some x ∧ c = (cs.drop (d.off π.pre)).take x.sz ∧ ad = base.map fun b => (b, d.off π.pre)
  | some φ => ∃ e m b n cap arr, d.get π.pre = some (.own e m) ∧ (cs.drop (d.off π.pre)).take 1 = [.slice (some ⟨b, 0, none⟩) n cap] ∧ j < n ∧ T b ∧ w.heap[b]? = some (.cells arr e (0, 0)) ∧
      (el P m e).get φ = some x ∧ c = ((elemAt arr.toList (el P m e).sz j).drop ((el P m e).off φ)).take x.sz ∧ ad = some (b, j * (el P m e).sz + (el P m e).off φ)

def Ok (k : Nat) : D → Prop
  | .none => True
  | .v d => ∃ cs, Fits d (val k) cs ∧ R P w F d cs (σ k) (S k)
  | .box t d => ∃ arr T, w.heap[loc k]? = some (.cells arr t (0, 0)) ∧ S k (loc k) ∧ (∀ b, T b → S k b ∧ b ≠ loc k) ∧ R P w F d arr.toList (σ k) T
  | .view o π => (∃ d cs base x c ad, Root w Γ val loc S o d cs base ∧ Sub P w (S o) d cs base π (σ k).toInt.toNat x c ad ∧ Fits x (val k) c) ∧ (π.post = none → σ k = .unit)
  | .ptr o π => (∃ d cs base x c b off, Root w Γ val loc S o d cs base ∧ Sub P w (S o) d cs base π (σ k).toInt.toNat x c (some (b, off)) ∧ val k = .pointer (some ⟨b, off, none⟩)) ∧ (π.post = none → σ k = .unit)
  | .tr o π => ∃ d cs base e y A n cap m, Root w Γ val loc S o d cs base ∧ d.get π = some (.own e y) ∧ (cs.drop (d.off π)).take 1 = [.slice A n cap] ∧ σ k = .int m ∧ 0 ≤ m ∧ m ≤ n ∧ val k = .slice A m.toNat cap
  | .sl o π => ∃ d cs base e y A n cap lo hi, Root w Γ val loc S o d cs base ∧ d.get π = some (.own e y) ∧ (cs.drop (d.off π)).take 1 = [.slice A n cap] ∧ σ k = .agg [.int lo, .int hi] ∧ 0 ≤ lo ∧ lo ≤ hi ∧ hi ≤ n ∧
      val k = .slice (if cap = lo.toNat then A else A.map (·.add (lo.toNat * (el P y e).sz))) (hi.toNat - lo.toNat) (cap - lo.toNat)
  | .bp o => val k = .pointer (some ⟨loc o, 0, none⟩) ∧ σ k = .unit
  | .cb r t => ∃ d cs base arr, Root w Γ val loc S r d cs base ∧ w.heap[loc k]? = some (.cells arr t (0, 0)) ∧ S k (loc k) ∧ arr.toList = cs
  | .cptr o r t π => (∃ d cs base arr x, Root w Γ val loc S r d cs base ∧ w.heap[loc o]? = some (.cells arr t (0, 0)) ∧ S o (loc o) ∧ arr.toList = cs ∧ d.get π = some x ∧ val k = .pointer (some ⟨loc o, d.off π, none⟩)) ∧ σ k = .unit
  | .rp d => ∃ ad cs, val k = .pointer (some ad) ∧ cs.length = d.sz ∧ CellsAt w F (some ad) 0 cs ∧ R P w F d cs (σ k) Set.none
  | .tup ks => val k = .tuple (ks.map val).toArray ∧ σ k = .unit
  | .clo f ks => val k = .func (.func f) #[] (ks.map val).toArray ∧ σ k = .unit
  | .ap o π => ∃ d cs base e y A n cap ad ki pj qs, Root w Γ val loc S o d cs base ∧ Sub P w (S o) d cs base π (PV.toInt pj).toNat (.own e y) [.slice A n cap] (some ad) ∧ el P y e = .int ki ∧ σ k = .agg [pj, .list qs] ∧ (∀ b, A = some ⟨b, 0, Option.none⟩ → S o b) ∧
      R P w F (.own e y) [val k] (.list qs) (fun b => S k b ∨ A = some ⟨b, 0, Option.none⟩)
  | .eb o => ∃ s u pu, val k = .agg #[.string s, .pointer (some ⟨loc o, 0, Option.none⟩), u] ∧ R P w F (.fp cycE) [u] pu Set.none ∧ σ k = .agg [.str s, .unit, pu]
  | .ebx o => ∃ s u pu, w.heap[loc k]? = some (.cells #[.string s, .pointer (some ⟨loc o, 0, Option.none⟩), u] cycE (0, 0)) ∧ S k (loc k) ∧ R P w F (.fp cycE) [u] pu Set.none ∧ σ k = .agg [.str s, .unit, pu]
  | .fb t => R P w F (.fp t) [.pointer (some ⟨loc k, 0, Option.none⟩)] (σ k) Set.none
  | .gv g b d => if (σ g).isB b = true then Ok k d else val k = undef ∧ σ k = .unit
end

/-- Beyond what was there and is not lent, anything may have turned. -/
structure Ext (w : World) (S : Set) (w' : World) : Prop where
  os : w'.os = w.os
  tape : w'.tape = w.tape
  output : w'.output = w.output
  size : w.heap.size ≤ w'.heap.size
  block : ∀ b, b < w.heap.size → ¬ S b → w'.heap[b]? = w.heap[b]?

theorem Ext.refl (w : World) (S : Set) : Ext w S w := ⟨rfl, rfl, rfl, Nat.le_refl _, fun _ _ _ => rfl⟩
theorem Ext.trans {w w1 w2 : World} {S T : Set} (h : Ext w S w1) (k : Ext w1 T w2) (hT : ∀ b, T b → S b ∨ w.heap.size ≤ b) : Ext w S w2 :=
  ⟨k.os.trans h.os, k.tape.trans h.tape, k.output.trans h.output, Nat.le_trans h.size k.size, fun b hb hs => by
    rw [k.block b (Nat.lt_of_lt_of_le hb h.size) (fun ht => (hT b ht).elim hs (fun h => by omega))]
    exact h.block b hb hs⟩
theorem Ext.drew {w w1 : World} {S : Set} (h : Ext w S w1) : Ext w S { w1 with drawn := w1.drawn + 1 } := ⟨h.os, h.tape, h.output, h.size, h.block⟩

/-- A table of the library's, where the program has one, holds its numbers and is only read. -/
structure Kp (P : Program) (w : World) (F : Set) : Prop where
  tab : ∀ g, P.globalNamed "internal/strconv.uint64pow10" = some g → F g ∧ Lib.TabIs P w "internal/strconv.uint64pow10" .u64 Lib.pow10Tab
  err : ∀ nm g, (nm = "strconv.ErrSyntax" ∨ nm = "strconv.ErrRange") → P.globalNamed nm = some g → F g ∧ ∃ t p, w.var? P nm = some #[.iface t p]

theorem Kp.to {P : Program} {w w' : World} {F F' : Set} (h : Kp P w F) (hF : ∀ b, F b → F' b) (hw : ∀ b, F b → w'.heap[b]? = w.heap[b]?) : Kp P w' F' :=
  ⟨fun g hg => by
    obtain ⟨h1, h2⟩ := h.tab g hg
    refine ⟨hF _ h1, ?_⟩
    unfold Lib.TabIs World.var? at h2 ⊢
    rw [hg] at h2 ⊢
    simp only [Option.bind_some] at h2 ⊢
    rw [hw _ h1]
    exact h2, fun nm g hn hg => by
    obtain ⟨h1, t, p, h2⟩ := h.err nm g hn hg
    refine ⟨hF _ h1, t, p, ?_⟩
    unfold World.var? at h2 ⊢
    rw [hg] at h2 ⊢
    simp only [Option.bind_some] at h2 ⊢
    rw [hw _ h1]
    exact h2⟩

/-- The frame: entered in world w0, with S0 lent to be written, F0 to be read; nt temporaries; what came in stays at its value and place. -/
structure Cx where
  P : Program
  w0 : World
  S0 : Set
  F0 : Set
  nt : Nat
  pv : Nat → Value
  pl : Nat → Nat
  kp : Kp P w0 F0
  dis : ∀ b, F0 b → S0 b → False
  lt : ∀ b, F0 b → b < w0.heap.size

structure RelX (C : Cx) (Γ : Nat → D) (σ : Nat → PV) (val : Nat → Value) (loc : Nat → Nat) (S : Nat → Set) (F : Set) (tmps : Array Value) (w : World) : Prop where
  n : tmps.size = C.nt
  ok : ∀ k, Ok C.P w F Γ σ val loc S k (Γ k)
  tm : ∀ i, val (tk i) = tmps.getD i undef
  dj : ∀ k k' b, S k b → S k' b → k = k'
  sF : ∀ k b, S k b → F b → False
  sz : ∀ k b, S k b → b < w.heap.size
  fz : ∀ b, F b → b < w.heap.size
  nw : ∀ k b, S k b → C.S0 b ∨ C.w0.heap.size ≤ b
  f0 : ∀ b, C.F0 b → F b
  fn : ∀ b, F b → C.F0 b ∨ C.S0 b ∨ C.w0.heap.size ≤ b
  pin : ∀ k, k % 64 = 62 → val k = C.pv k ∧ loc k = C.pl k
  ext : Ext C.w0 C.S0 w

theorem RelX.kp {C : Cx} {Γ : Nat → D} {σ : Nat → PV} {val : Nat → Value} {loc : Nat → Nat} {S : Nat → Set} {F : Set} {tmps : Array Value} {w : World} (h : RelX C Γ σ val loc S F tmps w) : Kp C.P w F :=
  C.kp.to h.f0 fun b hb => h.ext.block b (C.lt b hb) (C.dis b hb)

def Rel (C : Cx) (Γ : Nat → D) (σ : Nat → PV) (tmps : Array Value) (w : World) : Prop :=
  ∃ val loc S F, RelX C Γ σ val loc S F tmps w

/-- What a step says anew of some keys; whatever hangs on these is forgotten. -/
def look (U : List (Nat × D)) (k : Nat) : Option D := match U with
  | [] => none
  | (j, d) :: U => if Nat.beq k j then some d else look U k
def mem (k : Nat) (l : List Nat) : Bool := l.any (Nat.beq k)
def ap (Γ : Nat → D) (U : List (Nat × D)) (kw so : List Nat) (k : Nat) : D := match look U k with
  | some d => d
  | none => if (Γ k).roots.any (fun o => (look U o).isSome && !mem o so) || (Γ k).deep.any (fun o => (look U o).isSome) || (Γ k).weak.any (fun o => mem o kw) then .none else Γ k

section
variable {P : Program} {w w' : World} {F F' : Set} {Γ Γ' : Nat → D} {σ σ' : Nat → PV} {val val' : Nat → Value} {loc loc' : Nat → Nat} {S S' : Nat → Set}

/-- What is said of a key stays, where all that it hangs on stays. -/
theorem Ok.keep {k k' : Nat} : ∀ {x : D}, Ok P w F Γ σ val loc S k x → σ' k' = σ k → val' k' = val k → (x.owns = true → loc' k' = loc k ∧ (∀ b, S k b → S' k' b) ∧ ∀ b, S k b → w'.heap[b]? = w.heap[b]?) → (∀ b, F b → F' b) → (∀ b, F b → w'.heap[b]? = w.heap[b]?) →
    (∀ o ∈ x.roots, ((Γ o).isRoot = true → Γ' o = Γ o) ∧ val' o = val o ∧ loc' o = loc o ∧ ((Γ o).isBox = true → S o (loc o) → S' o (loc o) ∧ w'.heap[loc o]? = w.heap[loc o]?)) →
    (∀ o ∈ x.deep, σ' o = σ o ∧ (∀ b, S o b → S' o b) ∧ ∀ b, S o b → w'.heap[b]? = w.heap[b]?) →
    (∀ o ∈ x.weak, val' o = val o ∧ loc' o = loc o) → Ok P w' F' Γ' σ' val' loc' S' k' x := by
  have root : ∀ {o : Nat} {d : SD} {cs : List Value} {base : Option Nat}, ((Γ o).isRoot = true → Γ' o = Γ o) → val' o = val o → loc' o = loc o → ((Γ o).isBox = true → S o (loc o) → S' o (loc o) ∧ w'.heap[loc o]? = w.heap[loc o]?) →
      Root w Γ val loc S o d cs base → Root w' Γ' val' loc' S' o d cs base := by
    intro o d cs base e1 e2 e3 e4 h
    rcases h with ⟨a1, a2, a3⟩ | ⟨t, arr, a1, a2, a3, a4, a5⟩
    · exact .inl ⟨by rw [e1 (by rw [a1]; rfl), a1], by rw [e2]; exact a2, a3⟩
    · obtain ⟨g1, g2⟩ := e4 (by rw [a1]; rfl) a3
      exact .inr ⟨t, arr, by rw [e1 (by rw [a1]; rfl), a1], by rw [e3, g2]; exact a2, by rw [e3]; exact g1, a4, by rw [e3]; exact a5⟩
  have sub : ∀ {T T' : Set} {d : SD} {cs : List Value} {base : Option Nat} {π : Pth} {j : Nat} {x : SD} {c : List Value} {ad : Option (Nat × Nat)}, (π.post.isSome = true → (∀ b, T b → T' b) ∧ ∀ b, T b → w'.heap[b]? = w.heap[b]?) →
      Sub P w T d cs base π j x c ad → Sub P w' T' d cs base π j x c ad := by
    intro T T' d cs base π j x c ad e h
    unfold Sub at h ⊢
    cases hp : π.post with
    | none => simpa [hp] using h
    | some φ =>
      simp only [hp] at h ⊢
      obtain ⟨e1, e2⟩ := e (by rw [hp]; rfl)
      obtain ⟨e, y, b, n, cap, arr, h1, h2, h3, h4, h5, h6⟩ := h
      exact ⟨e, y, b, n, cap, arr, h1, h2, h3, e1 _ h4, by rw [e2 _ h4]; exact h5, h6⟩
  intro x
  induction x with
  | none => intros; trivial
  | v d =>
    intro h e1 e2 e3 e5 e6 _ _ _
    obtain ⟨cs, h1, h2⟩ := h
    obtain ⟨_, e4, e7⟩ := e3 rfl
    exact ⟨cs, by rw [e2]; exact h1, by rw [e1]; exact h2.imp e5 e4 (fun b hb => hb.elim (e6 b) (e7 b))⟩
  | box t d =>
    intro h e1 e2 e3 e5 e6 _ _ _
    obtain ⟨arr, T, h1, h2, h3, h4⟩ := h
    obtain ⟨e3, e4, e7⟩ := e3 rfl
    refine ⟨arr, T, by rw [e3, e7 _ h2]; exact h1, by rw [e3]; exact e4 _ h2, fun b hb => ⟨e4 _ (h3 b hb).1, by rw [e3]; exact (h3 b hb).2⟩, by rw [e1]; exact h4.imp e5 (fun b hb => hb) (fun b hb => hb.elim (e6 b) fun hb => e7 b (h3 b hb).1)⟩
  | view o π =>
    intro h e1 e2 e3 e5 e6 e7 e9 _
    obtain ⟨g1, g2, g3, g4⟩ := e7 o (by simp [D.roots])
    obtain ⟨⟨d, cs, base, x, c, ad, h1, h2, h3⟩, h4⟩ := h
    exact ⟨⟨d, cs, base, x, c, ad, root g1 g2 g3 g4 h1, by rw [e1]; exact sub (fun hp => (e9 o (by simp [D.deep, hp])).2) h2, by rw [e2]; exact h3⟩, by rw [e1]; exact h4⟩
  | ptr o π =>
    intro h e1 e2 e3 e5 e6 e7 e9 _
    obtain ⟨g1, g2, g3, g4⟩ := e7 o (by simp [D.roots])
    obtain ⟨⟨d, cs, base, x, c, b, off, h1, h2, h3⟩, h4⟩ := h
    exact ⟨⟨d, cs, base, x, c, b, off, root g1 g2 g3 g4 h1, by rw [e1]; exact sub (fun hp => (e9 o (by simp [D.deep, hp])).2) h2, by rw [e2]; exact h3⟩, by rw [e1]; exact h4⟩
  | tr o π =>
    intro h e1 e2 e3 e5 e6 e7 e9 _
    obtain ⟨g1, g2, g3, g4⟩ := e7 o (by simp [D.roots])
    obtain ⟨d, cs, base, e, y, A, n, cap, m, h1, h2, h3, h4, h5, h6, h7⟩ := h
    exact ⟨d, cs, base, e, y, A, n, cap, m, root g1 g2 g3 g4 h1, h2, h3, by rw [e1]; exact h4, h5, h6, by rw [e2]; exact h7⟩
  | sl o π =>
    intro h e1 e2 e3 e5 e6 e7 e9 _
    obtain ⟨g1, g2, g3, g4⟩ := e7 o (by simp [D.roots])
    obtain ⟨d, cs, base, e, y, A, n, cap, lo, hi, h1, h2, h3, h4, h5, h6, h7, h8⟩ := h
    exact ⟨d, cs, base, e, y, A, n, cap, lo, hi, root g1 g2 g3 g4 h1, h2, h3, by rw [e1]; exact h4, h5, h6, h7, by rw [e2]; exact h8⟩
  | bp o =>
    intro h e1 e2 e3 e5 e6 _ _ e8
    obtain ⟨g1, g2⟩ := e8 o (by simp [D.weak])
    exact ⟨by rw [e2, g2]; exact h.1, by rw [e1]; exact h.2⟩
  | cb r t =>
    intro h e1 e2 e3 e5 e6 e7 _ _
    obtain ⟨g1, g2, g3, g4⟩ := e7 r (by simp [D.roots])
    obtain ⟨d, cs, base, arr, h1, h2, h3, h4⟩ := h
    obtain ⟨e3, e4, e8⟩ := e3 rfl
    exact ⟨d, cs, base, arr, root g1 g2 g3 g4 h1, by rw [e3, e8 _ h3]; exact h2, by rw [e3]; exact e4 _ h3, h4⟩
  | cptr o r t π =>
    intro h e1 e2 e3 e5 e6 e7 e9 e8
    obtain ⟨g1, g2, g3, g4⟩ := e7 r (by simp [D.roots])
    obtain ⟨f1, f2, f3⟩ := e9 o (by simp [D.deep])
    obtain ⟨_, f4⟩ := e8 o (by simp [D.weak])
    obtain ⟨⟨d, cs, base, arr, x, h1, h2, h3, h4, h5, h6⟩, h7⟩ := h
    exact ⟨⟨d, cs, base, arr, x, root g1 g2 g3 g4 h1, by rw [f4, f3 _ h3]; exact h2, by rw [f4]; exact f2 _ h3, h4, h5, by rw [e2, f4]; exact h6⟩, by rw [e1]; exact h7⟩
  | rp d =>
    intro h e1 e2 e3 e5 e6 _ _ _
    obtain ⟨ad, cs, h1, h2, h3, h4⟩ := h
    exact ⟨ad, cs, by rw [e2]; exact h1, h2, h3.imp e5 (fun b hb => e6 b hb), by rw [e1]; exact h4.imp e5 (fun b hb => hb) (fun b hb => hb.elim (e6 b) fun h => h.elim)⟩
  | tup ks =>
    intro h e1 e2 e3 e5 e6 _ _ e8
    have : ks.map val' = ks.map val := List.map_congr_left fun o ho => (e8 o (by simpa [D.weak] using ho)).1
    show val' k' = .tuple (ks.map val').toArray ∧ _
    rw [this, e2, e1]
    exact h
  | clo f ks =>
    intro h e1 e2 e3 e5 e6 _ _ e8
    have : ks.map val' = ks.map val := List.map_congr_left fun o ho => (e8 o (by simpa [D.weak] using ho)).1
    show val' k' = .func (.func f) #[] (ks.map val').toArray ∧ _
    rw [this, e2, e1]
    exact h
  | ap o π =>
    intro h e1 e2 e3 e5 e6 e7 e9 _
    obtain ⟨g1, g2, g3, g4⟩ := e7 o (by simp [D.roots])
    obtain ⟨f1, f2, f3⟩ := e9 o (by simp [D.deep])
    obtain ⟨d, cs, base, e, y, A, n, cap, ad, ki, pj, qs, h1, h2, h3, h4, h5, h6⟩ := h
    obtain ⟨_, e4, e8⟩ := e3 rfl
    refine ⟨d, cs, base, e, y, A, n, cap, ad, ki, pj, qs, root g1 g2 g3 g4 h1, sub (fun _ => ⟨f2, f3⟩) h2, h3, by rw [e1]; exact h4, fun b hb => f2 _ (h5 b hb), ?_⟩
    rw [e2]
    exact h6.imp e5 (fun b hb => hb.imp_left (e4 b)) fun b hb => hb.elim (e6 b) fun hb => hb.elim (e8 b) fun hA => f3 _ (h5 b hA)
  | eb o =>
    intro h e1 e2 e3 e5 e6 _ _ e8
    obtain ⟨s, u, pu, h1, h2, h3⟩ := h
    exact ⟨s, u, pu, by rw [e2, (e8 o (by simp [D.weak])).2]; exact h1, h2.imp e5 (fun _ h => h) (fun b hb => hb.elim (e6 b) fun h => h.elim), by rw [e1]; exact h3⟩
  | ebx o =>
    intro h e1 e2 e3 e5 e6 _ _ e8
    obtain ⟨e3, e4, e9⟩ := e3 rfl
    obtain ⟨s, u, pu, h1, h0, h2, h3⟩ := h
    exact ⟨s, u, pu, by rw [e3, e9 _ h0, (e8 o (by simp [D.weak])).2]; exact h1, by rw [e3]; exact e4 _ h0, h2.imp e5 (fun _ h => h) (fun b hb => hb.elim (e6 b) fun h => h.elim), by rw [e1]; exact h3⟩
  | fb t =>
    intro h e1 e2 e3 e5 e6 _ _ _
    obtain ⟨e3, _, _⟩ := e3 rfl
    show R _ _ _ _ [.pointer (some ⟨loc' k', 0, Option.none⟩)] (σ' k') _
    rw [e1, e3]
    exact R.imp h e5 (fun _ h => h) (fun b hb => hb.elim (e6 b) fun h => h.elim)
  | gv g b d ih =>
    intro h e1 e2 e3 e5 e6 e7 e9 e8
    have hg := (e9 g (by simp [D.deep])).1
    simp only [Ok] at h ⊢
    rw [hg]
    split
    · rename_i hb
      rw [if_pos hb] at h
      exact ih h e1 e2 e3 e5 e6 (fun o ho => e7 o (by simpa [D.roots] using ho)) (fun o ho => e9 o (by simp [D.deep, ho])) (fun o ho => e8 o (by simpa [D.weak] using ho))
    · rename_i hb
      rw [if_neg hb] at h
      exact ⟨by rw [e2]; exact h.1, by rw [e1]; exact h.2⟩

theorem RelX.appG {C : Cx} {tmps tmps' : Array Value} (h : RelX C Γ σ val loc S F tmps w) (U : List (Nat × D)) (kw so : List Nat)
    (same : ∀ k, look U k = none → σ' k = σ k ∧ val' k = val k ∧ loc' k = loc k ∧ S' k = S k)
    (boxes : ∀ k x, look U k = some x → mem k kw = false → val' k = val k ∧ loc' k = loc k)
    (soft : ∀ o x, look U o = some x → mem o so = true → x = Γ o ∧ val' o = val o ∧ loc' o = loc o ∧ ((Γ o).isBox = true → S o (loc o) → S' o (loc o) ∧ w'.heap[loc o]? = w.heap[loc o]?))
    (hpin : ∀ k, k % 64 = 62 → val' k = val k ∧ loc' k = loc k)
    (hn : tmps'.size = C.nt) (htm : ∀ i, val' (tk i) = tmps'.getD i undef)
    (hF : ∀ b, F b → F' b) (hF' : ∀ b, F' b → F b ∨ (∃ k x, look U k = some x ∧ S k b) ∨ w.heap.size ≤ b) (hfz : ∀ b, F' b → b < w'.heap.size)
    (hw : ∀ b, b < w.heap.size → (∀ k x, look U k = some x → ¬ S k b) → w'.heap[b]? = w.heap[b]?)
    (hos : w'.os = w.os) (htape : w'.tape = w.tape) (hout : w'.output = w.output) (hsize : w.heap.size ≤ w'.heap.size)
    (hS : ∀ k x b, look U k = some x → S' k b → (∃ k0 x0, look U k0 = some x0 ∧ S k0 b) ∨ w.heap.size ≤ b)
    (hSz : ∀ k x b, look U k = some x → S' k b → b < w'.heap.size)
    (hdj : ∀ k x k' x' b, look U k = some x → look U k' = some x' → S' k b → S' k' b → k = k')
    (hSF : ∀ k x b, look U k = some x → S' k b → F' b → False)
    (hW : ∀ k x, look U k = some x → Ok C.P w' F' (ap Γ U kw so) σ' val' loc' S' k x) :
    RelX C (ap Γ U kw so) σ' val' loc' S' F' tmps' w' := by
  have hwF : ∀ b, F b → w'.heap[b]? = w.heap[b]? := fun b hb => hw b (h.fz b hb) fun k x hk hs => h.sF k b hs hb
  have hwS : ∀ k b, look U k = none → S k b → w'.heap[b]? = w.heap[b]? := fun k b hk hb => hw b (h.sz k b hb) fun k' x hk' hs => by
    have := h.dj k k' b hb hs
    subst this
    rw [hk] at hk'
    cases hk'
  refine ⟨hn, fun k => ?_, htm, fun k k' b hb hb' => ?_, fun k b hb hf => ?_, fun k b hb => ?_, hfz, fun k b hb => ?_, fun b hb => hF b (h.f0 b hb), fun b hb => ?_, fun k hk => ⟨(hpin k hk).1.trans (h.pin k hk).1, (hpin k hk).2.trans (h.pin k hk).2⟩, ?_⟩
  · cases hk : look U k with
    | some x =>
      have : ap Γ U kw so k = x := by unfold ap; simp [hk]
      rw [this]
      exact hW k x hk
    | none =>
      obtain ⟨e1, e2, e3, e4⟩ := same k hk
      have ha : ap Γ U kw so k = if (Γ k).roots.any (fun o => (look U o).isSome && !mem o so) || (Γ k).deep.any (fun o => (look U o).isSome) || (Γ k).weak.any (fun o => mem o kw) then .none else Γ k := by unfold ap; simp [hk]
      rw [ha]
      split
      · trivial
      · rename_i hc
        simp only [Bool.or_eq_true, not_or, Bool.not_eq_true, List.any_eq_false] at hc
        obtain ⟨⟨hc1, hc2⟩, hc3⟩ := hc
        refine (h.ok k).keep e1 e2 (fun _ => ⟨e3, fun b hb => by rw [e4]; exact hb, fun b hb => hwS k b hk hb⟩) hF hwF (fun o ho => ?_) (fun o ho => ?_) (fun o ho => ?_)
        · cases hko : look U o with
          | none =>
            obtain ⟨g1, g2, g3, g4⟩ := same o hko
            refine ⟨fun hroot => ?_, g2, g3, fun _ hs => ⟨by rw [g4]; exact hs, hwS o _ hko hs⟩⟩
            unfold ap
            simp only [hko]
            cases hΓ : Γ o <;> simp [hΓ, D.isRoot] at hroot <;> simp [D.roots, D.weak, D.deep]
          | some x =>
            have hso : mem o so = true := by
              have := hc1 o ho
              simpa [hko] using this
            obtain ⟨g1, g2, g3, g4⟩ := soft o x hko hso
            refine ⟨fun _ => ?_, g2, g3, g4⟩
            have : ap Γ U kw so o = x := by unfold ap; simp [hko]
            rw [this, g1]
        · have hko : look U o = none := by
            have := hc2 o ho
            cases hl : look U o with
            | none => rfl
            | some x => simp [hl] at this
          obtain ⟨g1, g2, g3, g4⟩ := same o hko
          exact ⟨g1, fun b hb => by rw [g4]; exact hb, fun b hb => hwS o b hko hb⟩
        · have hkw : mem o kw = false := by simpa using hc3 o ho
          cases hko : look U o with
          | none => exact ⟨(same o hko).2.1, (same o hko).2.2.1⟩
          | some x => exact boxes o x hko hkw
  · cases hk : look U k with
    | some x =>
      cases hk' : look U k' with
      | some x' => exact hdj k x k' x' b hk hk' hb hb'
      | none =>
        exfalso
        rw [(same k' hk').2.2.2] at hb'
        rcases hS k x b hk hb with ⟨k0, x0, h1, h2⟩ | h1
        · have := h.dj k' k0 b hb' h2
          subst this
          rw [hk'] at h1
          cases h1
        · have := h.sz k' b hb'
          omega
    | none =>
      rw [(same k hk).2.2.2] at hb
      cases hk' : look U k' with
      | some x' =>
        exfalso
        rcases hS k' x' b hk' hb' with ⟨k0, x0, h1, h2⟩ | h1
        · have := h.dj k k0 b hb h2
          subst this
          rw [hk] at h1
          cases h1
        · have := h.sz k b hb
          omega
      | none =>
        rw [(same k' hk').2.2.2] at hb'
        exact h.dj k k' b hb hb'
  · cases hk : look U k with
    | some x => exact hSF k x b hk hb hf
    | none =>
      rw [(same k hk).2.2.2] at hb
      rcases hF' b hf with hf | ⟨k0, x0, h1, h2⟩ | h1
      · exact h.sF k b hb hf
      · have := h.dj k k0 b hb h2
        subst this
        rw [hk] at h1
        cases h1
      · have := h.sz k b hb
        omega
  · cases hk : look U k with
    | some x => exact hSz k x b hk hb
    | none =>
      rw [(same k hk).2.2.2] at hb
      exact Nat.lt_of_lt_of_le (h.sz k b hb) hsize
  · cases hk : look U k with
    | some x =>
      rcases hS k x b hk hb with ⟨k0, x0, h1, h2⟩ | h1
      · exact h.nw k0 b h2
      · exact .inr (Nat.le_trans h.ext.size h1)
    | none =>
      rw [(same k hk).2.2.2] at hb
      exact h.nw k b hb
  · rcases hF' b hb with hf | ⟨k0, x0, h1, h2⟩ | h1
    · exact h.fn b hf
    · exact .inr (h.nw k0 b h2)
    · exact .inr (.inr (Nat.le_trans h.ext.size h1))
  · exact ⟨hos.trans h.ext.os, htape.trans h.ext.tape, hout.trans h.ext.output, Nat.le_trans h.ext.size hsize, fun b hb hs => by
      rw [hw b (Nat.lt_of_lt_of_le hb h.ext.size) (fun k x hk hsk => (h.nw k b hsk).elim hs (fun h => by omega))]
      exact h.ext.block b hb hs⟩

/-- .. where nothing more is only read. -/
theorem RelX.app {C : Cx} {tmps tmps' : Array Value} (h : RelX C Γ σ val loc S F tmps w) (U : List (Nat × D)) (kw so : List Nat)
    (same : ∀ k, look U k = none → σ' k = σ k ∧ val' k = val k ∧ loc' k = loc k ∧ S' k = S k)
    (boxes : ∀ k x, look U k = some x → mem k kw = false → val' k = val k ∧ loc' k = loc k)
    (soft : ∀ o x, look U o = some x → mem o so = true → x = Γ o ∧ val' o = val o ∧ loc' o = loc o ∧ ((Γ o).isBox = true → S o (loc o) → S' o (loc o) ∧ w'.heap[loc o]? = w.heap[loc o]?))
    (hpin : ∀ k, k % 64 = 62 → val' k = val k ∧ loc' k = loc k)
    (hn : tmps'.size = C.nt) (htm : ∀ i, val' (tk i) = tmps'.getD i undef)
    (hF : ∀ b, F b → F' b) (hF' : ∀ b, F' b → F b) (hfz : ∀ b, F' b → b < w'.heap.size)
    (hw : ∀ b, b < w.heap.size → (∀ k x, look U k = some x → ¬ S k b) → w'.heap[b]? = w.heap[b]?)
    (hos : w'.os = w.os) (htape : w'.tape = w.tape) (hout : w'.output = w.output) (hsize : w.heap.size ≤ w'.heap.size)
    (hS : ∀ k x b, look U k = some x → S' k b → (∃ k0 x0, look U k0 = some x0 ∧ S k0 b) ∨ w.heap.size ≤ b)
    (hSz : ∀ k x b, look U k = some x → S' k b → b < w'.heap.size)
    (hdj : ∀ k x k' x' b, look U k = some x → look U k' = some x' → S' k b → S' k' b → k = k')
    (hSF : ∀ k x b, look U k = some x → S' k b → F' b → False)
    (hW : ∀ k x, look U k = some x → Ok C.P w' F' (ap Γ U kw so) σ' val' loc' S' k x) :
    RelX C (ap Γ U kw so) σ' val' loc' S' F' tmps' w' :=
  h.appG U kw so same boxes soft hpin hn htm hF (fun b hb => .inl (hF' b hb)) hfz hw hos htape hout hsize hS hSz hdj hSF hW
end
end Go.Rsc
