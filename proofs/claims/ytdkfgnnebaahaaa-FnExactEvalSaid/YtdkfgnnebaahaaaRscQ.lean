/- Structs that are built. No conditions. -/
import Derived.Test.YtdkfgnnebaahaaaRscP
namespace Go.Rsc
open Go.RowKit
set_option linter.unusedVariables false
set_option linter.unusedSimpArgs false

def offs : List Nat → Nat → List (Nat × Nat)
  | [], _ => []
  | s :: ss, o => (o, s) :: offs ss (o + s)
theorem offs_length : ∀ (ss : List Nat) (o : Nat), (offs ss o).length = ss.length
  | [], o => rfl
  | s :: ss, o => by simp [offs, offs_length ss]
theorem offs_get : ∀ (ss : List Nat) (o i s : Nat), ss[i]? = some s → (offs ss o)[i]? = some (o + (ss.take i).sum, s)
  | [], o, i, s, h => by simp at h
  | a :: ss, o, 0, s, h => by simp only [List.getElem?_cons_zero, Option.some.injEq] at h; subst h; simp [offs]
  | a :: ss, o, i + 1, s, h => by
    simp only [List.getElem?_cons_succ] at h
    simp only [offs, List.getElem?_cons_succ, offs_get ss (o + a) i s h, List.take_succ_cons, List.sum_cons, Nat.add_assoc]
def updL (g : Nat → List Value) (i : Nat) (v : List Value) : Nat → List Value := fun j => if j = i then v else g j
def flat (g : Nat → List Value) : Nat → Nat → List Value
  | _, 0 => []
  | i, n + 1 => g i ++ flat g (i + 1) n
theorem flat_congr {g g' : Nat → List Value} : ∀ (n i : Nat), (∀ j, i ≤ j → j < i + n → g j = g' j) → flat g i n = flat g' i n
  | 0, i, _ => rfl
  | n + 1, i, h => by
    simp only [flat]
    rw [h i (Nat.le_refl _) (by omega), flat_congr n (i + 1) (fun j h1 h2 => h j (by omega) (by omega))]
theorem flat_length {g : Nat → List Value} : ∀ (ss : List Nat) (i : Nat), (∀ j s, ss[j]? = some s → (g (i + j)).length = s) → (flat g i ss.length).length = ss.sum
  | [], i, _ => rfl
  | s :: ss, i, h => by
    simp only [List.length_cons, flat, List.length_append, List.sum_cons]
    rw [show (g i).length = s from h 0 s rfl, flat_length ss (i + 1) (fun j s' hs => by have := h (j + 1) s' (by simpa using hs); rwa [show i + 1 + j = i + (j + 1) by omega])]
theorem flat_upd {g : Nat → List Value} {v : List Value} : ∀ (ss : List Nat) (i k s : Nat), (∀ j s, ss[j]? = some s → (g (i + j)).length = s) → ss[k]? = some s → v.length = s →
    (flat g i ss.length).take (ss.take k).sum ++ v ++ (flat g i ss.length).drop ((ss.take k).sum + s) = flat (updL g (i + k) v) i ss.length
  | [], i, k, s, _, hk, _ => by simp at hk
  | a :: ss, i, 0, s, h, hk, hv => by
    simp only [List.getElem?_cons_zero, Option.some.injEq] at hk
    subst hk
    have hg : (g i).length = a := h 0 a rfl
    simp only [List.length_cons, flat, List.take_zero, List.sum_nil, Nat.zero_add, List.nil_append]
    rw [← hg, List.drop_left, Nat.add_zero]
    congr 1
    · simp [updL]
    · exact flat_congr _ _ fun j h1 h2 => by simp only [updL]; rw [if_neg (by omega)]
  | a :: ss, i, k + 1, s, h, hk, hv => by
    simp only [List.getElem?_cons_succ] at hk
    have hg : (g i).length = a := h 0 a rfl
    have ih := flat_upd (g := g) (v := v) ss (i + 1) k s (fun j s' hs => by have := h (j + 1) s' (by simpa using hs); rwa [show i + 1 + j = i + (j + 1) by omega]) hk hv
    simp only [List.length_cons, flat, List.take_succ_cons, List.sum_cons]
    rw [show i + 1 + k = i + (k + 1) by omega] at ih
    rw [← ih]
    have e1 : updL g (i + (k + 1)) v i = g i := by simp only [updL]; rw [if_neg (by omega)]
    have t1 : ∀ (A B : List Value) (k : Nat), (A ++ B).take (A.length + k) = A ++ B.take k := fun A B k => by rw [List.take_append, List.take_of_length_le (by omega), Nat.add_sub_cancel_left]
    have t2 : ∀ (A B : List Value) (k : Nat), (A ++ B).drop (A.length + k) = B.drop k := fun A B k => by rw [← List.drop_drop, List.drop_left]
    rw [e1, ← hg, Nat.add_assoc, t1, t2]
    simp [List.append_assoc]

/-- What is filled in, field by field. -/
def final (g : Nat → List Value) : List (Nat × Value) → Nat → List Value
  | [] => g
  | (i, v) :: ps => final (updL g i v.cells.toList) ps
theorem fill_fields {ss : List Nat} : ∀ (ps : List (Nat × Value)) (g : Nat → List Value) (cells : Array Value), (∀ i v, (i, v) ∈ ps → ss[i]? = some v.cells.size) → (∀ j s, ss[j]? = some s → (g j).length = s) → cells.toList = flat g 0 ss.length →
    ∃ cells', Instr.fill ((offs ss 0).toArray[·]?) cells ps = some cells' ∧ cells'.toList = flat (final g ps) 0 ss.length
  | [], g, cells, _, _, hc => ⟨cells, rfl, hc⟩
  | (i, v) :: ps, g, cells, hp, hg, hc => by
    have hi := hp i v (by simp)
    have hlen : cells.size = ss.sum := by
      rw [← Array.length_toList, hc]
      exact flat_length ss 0 (fun j s hs => by rw [Nat.zero_add]; exact hg j s hs)
    have hsum : (ss.take i).sum + v.cells.size ≤ ss.sum := by
      have : ss = ss.take i ++ v.cells.size :: ss.drop (i + 1) := by
        obtain ⟨hlt, e⟩ := List.getElem?_eq_some_iff.1 hi
        conv => lhs; rw [← List.take_append_drop i ss, List.drop_eq_getElem_cons hlt]
        rw [e]
      conv => rhs; rw [this]
      simp
    obtain ⟨cells', e1, e2⟩ := fill_cons (place := ((offs ss 0).toArray[·]?)) (cells := cells) (i := i) (v := v) (off := (ss.take i).sum) (size := v.cells.size) (rest := ps) (by simp [offs_get ss 0 i _ hi]) rfl (by rw [hlen]; exact hsum)
    have e3 := flat_upd (g := g) (v := v.cells.toList) ss 0 i v.cells.size (fun j s hs => by rw [Nat.zero_add]; exact hg j s hs) hi (by simp)
    rw [Nat.zero_add] at e3
    rw [e1]
    exact fill_fields ps (updL g i v.cells.toList) cells' (fun i' v' h => hp i' v' (by simp [h])) (fun j s hs => by
      simp only [updL]
      split
      · rename_i e; subst e; rw [hi] at hs; simpa using hs
      · exact hg j s hs) (by rw [e2, hc]; exact e3)

theorem any_beq {k : Nat} {l : List Nat} : l.any (Nat.beq k) = true ↔ k ∈ l := by
  rw [List.any_eq_true]
  exact ⟨fun ⟨x, h, e⟩ => by rw [beq_iff.1 e]; exact h, fun h => ⟨k, h, beq_iff.2 rfl⟩⟩
theorem final_notin : ∀ (ps : List (Nat × Value)) (g : Nat → List Value) (i : Nat), i ∉ ps.map (·.1) → final g ps i = g i
  | [], g, i, _ => rfl
  | (j, v) :: ps, g, i, h => by
    simp only [List.map_cons, List.mem_cons, not_or] at h
    simp only [final]
    rw [final_notin ps _ i h.2]
    simp [updL, h.1]
theorem final_at : ∀ (ps : List (Nat × Value)) (g : Nat → List Value) (i j : Nat) (v : Value), distinct (ps.map (·.1)) = true → ps[j]? = some (i, v) → final g ps i = v.cells.toList
  | [], g, i, j, v, _, h => by simp at h
  | (k, u) :: ps, g, i, 0, v, hd, h => by
    simp only [List.getElem?_cons_zero, Option.some.injEq, Prod.mk.injEq] at h
    obtain ⟨rfl, rfl⟩ := h
    simp only [List.map_cons, distinct, Bool.and_eq_true, Bool.not_eq_true'] at hd
    simp only [final]
    rw [final_notin ps _ k (fun h => by rw [any_beq.2 h] at hd; simp at hd)]
    simp [updL]
  | (k, u) :: ps, g, i, j + 1, v, hd, h => by
    simp only [List.map_cons, distinct, Bool.and_eq_true, Bool.not_eq_true'] at hd
    simp only [final]
    exact final_at ps _ i j v hd.2 (by simpa using h)

section
variable {P : Program} {w w' : World} {F F' : Set} {Γ : Nat → D} {σ : Nat → PV} {val : Nat → Value} {loc : Nat → Nat} {S : Nat → Set} {C : Cx} {tmps : Array Value}
variable {d d' x y : SD} {cs c : List Value} {p q : PV} {T T' : Set}

theorem cBuildGo_ok {b : Nat} {z : List Value} {parts : List Nat} {ds : List SD} {G : Nat → List Value} {S : Nat → Set} (hdj : ∀ k k' b', S k b' → S k' b' → k = k')
    (hpart : ∀ i j d, parts.findIdx? (Nat.beq i) = some j → ds[j]? = some d → hasDead d = false → R P w F d (G i) (σ (vk (b + j))) (S (vk (b + j)))) :
    ∀ (fs : List Field) (i off : Nat) {d : SD} {px : PX}, cBuildGo b P z parts ds fs i off = some (d, px) →
    ∃ ss : List Nat, ss.length = fs.length ∧ fs.mapM (fun f => (P.info? f.type).map fun i => (f.offset, i.size)) = some (offs ss off) ∧ ss.sum = d.sz ∧
      (∀ k j s, parts.findIdx? (Nat.beq (i + k)) = some j → ss[k]? = some s → ∃ d, ds[j]? = some d ∧ d.sz = s ∧ hasDead d = false) ∧
      ((∀ k s, ss[k]? = some s → parts.findIdx? (Nat.beq (i + k)) = none → G (i + k) = (z.drop (off + (ss.take k).sum)).take s) →
        ∃ ps, px.eval σ [] = .agg ps ∧ R P w F d (flat G i fs.length) (.agg ps) (fun b' => ∃ k j, i ≤ k ∧ parts.findIdx? (Nat.beq k) = some j ∧ S (vk (b + j)) b'))
  | [], i, off, d, px, h => by
    simp only [cBuildGo, Option.some.injEq, Prod.mk.injEq] at h
    obtain ⟨rfl, rfl⟩ := h
    exact ⟨[], rfl, rfl, rfl, fun k j s _ hs => by simp at hs, fun _ => ⟨[], rfl, .sn _⟩⟩
  | f :: fs, i, off, d, px, h => by
    simp only [cBuildGo] at h
    have rest : ∀ (d0 : SD) (x0 : PX), (if (Nat.beq f.offset off && Nat.beq (P.cellsOf f.type) d0.sz && tyOk P f.type d0) = true then (cBuildGo b P z parts ds fs (i + 1) (off + d0.sz)).map fun (y, ys) => (SD.sc d0 y, PX.acons x0 ys) else none) = some (d, px) →
        (∀ j, parts.findIdx? (Nat.beq i) = some j → ds[j]? = some d0 ∧ hasDead d0 = false) →
        ((parts.findIdx? (Nat.beq i) = none → G i = (z.drop off).take d0.sz) → R P w F d0 (G i) (x0.eval σ []) (fun b' => ∃ j, parts.findIdx? (Nat.beq i) = some j ∧ S (vk (b + j)) b')) →
        ∃ ss : List Nat, ss.length = (f :: fs).length ∧ (f :: fs).mapM (fun f => (P.info? f.type).map fun i => (f.offset, i.size)) = some (offs ss off) ∧ ss.sum = d.sz ∧
          (∀ k j s, parts.findIdx? (Nat.beq (i + k)) = some j → ss[k]? = some s → ∃ d, ds[j]? = some d ∧ d.sz = s ∧ hasDead d = false) ∧
          ((∀ k s, ss[k]? = some s → parts.findIdx? (Nat.beq (i + k)) = none → G (i + k) = (z.drop (off + (ss.take k).sum)).take s) →
            ∃ ps, px.eval σ [] = .agg ps ∧ R P w F d (flat G i (f :: fs).length) (.agg ps) (fun b' => ∃ k j, i ≤ k ∧ parts.findIdx? (Nat.beq k) = some j ∧ S (vk (b + j)) b')) := by
      intro d0 x0 h hds hR0
      split at h
      · rename_i hcond
        simp only [Bool.and_eq_true, beq_iff] at hcond
        obtain ⟨⟨hoff, hcell⟩, hty⟩ := hcond
        obtain ⟨⟨y, ys⟩, hgo, e⟩ := Option.map_eq_some_iff.1 h
        simp only [Prod.mk.injEq] at e
        obtain ⟨rfl, rfl⟩ := e
        obtain ⟨⟨u, hu, _⟩, _⟩ := tyOk_spec hty
        obtain ⟨inf, hinf⟩ := info_of_underlying hu
        have hci : inf.size = d0.sz := by rw [← hcell]; simp [Program.cellsOf, hinf]
        obtain ⟨ss, s1, s2, s3, s4, s5⟩ := cBuildGo_ok hdj hpart fs (i + 1) (off + d0.sz) hgo
        refine ⟨d0.sz :: ss, by simp [s1], ?_, by simp [s3, SD.sz], fun k j s hk hs => ?_, fun hz => ?_⟩
        · simp [List.mapM_cons, hinf, s2, offs, hoff, hci]
        · cases k with
          | zero =>
            simp only [List.getElem?_cons_zero, Option.some.injEq] at hs
            obtain ⟨q1, q2⟩ := hds j hk
            exact ⟨d0, q1, hs, q2⟩
          | succ k => exact s4 k j s (by rwa [show i + 1 + k = i + (k + 1) by omega]) (by simpa using hs)
        · obtain ⟨ps, e1, hR⟩ := s5 (fun k s hk hn => by
            have := hz (k + 1) s (by simpa using hk) (by rwa [show i + (k + 1) = i + 1 + k by omega])
            rw [show i + 1 + k = i + (k + 1) by omega, this]
            simp only [List.take_succ_cons, List.sum_cons, Nat.add_assoc])
          have hh := hR0 (fun hn => by have := hz 0 d0.sz rfl hn; simpa using this)
          refine ⟨x0.eval σ [] :: ps, by simp [PX.eval, e1, PV.toAgg], ?_⟩
          simp only [List.length_cons, flat]
          refine R.sc d0 y _ _ _ ps _ _ _ hh hR (fun b' ⟨j, h1, h2⟩ => ⟨i, j, Nat.le_refl _, h1, h2⟩) (fun b' ⟨k, j, h1, h2, h3⟩ => ⟨k, j, by omega, h2, h3⟩) (fun b' ⟨j, h1, h2⟩ ⟨k, j', h3, h4, h5⟩ => ?_)
          have := vk_inj (hdj _ _ _ h2 h5)
          have : j = j' := by omega
          subst this
          have a1 := List.findIdx?_eq_some_iff_getElem.1 h1
          have a2 := List.findIdx?_eq_some_iff_getElem.1 h4
          obtain ⟨l1, l2, _⟩ := a1
          obtain ⟨l3, l4, _⟩ := a2
          have b1 := beq_iff.1 l2
          have b2 := beq_iff.1 l4
          omega
      · cases h
    split at h
    · rename_i j hj
      split at h
      · rename_i d0 hd0
        split at h
        · cases h
        · rename_i hdd
          simp only [Bool.not_eq_true] at hdd
          refine rest d0 (.k (vk (b + j))) h (fun j' hj' => ?_) (fun _ => ?_)
          · rw [hj] at hj'; simp only [Option.some.injEq] at hj'; subst hj'; exact ⟨hd0, hdd⟩
          · exact (hpart i j d0 hj hd0 hdd).wide (fun b' hb' => ⟨j, hj, hb'⟩)
      · cases h
    · rename_i hj
      split at h
      · rename_i hz
        refine rest _ _ h (fun j' hj' => by rw [hj] at hj'; cases hj') (fun hG => ?_)
        rw [hG hj]
        exact (zeroR_ok (P := P) (w := w) (F := F) (σ := σ) hz).wide (fun _ h => h.elim)
      · cases h
end
end Go.Rsc
