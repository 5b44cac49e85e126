/- What functions of the program and of the reference come to, for the law FnExactKin. Each under the conditions that it names. -/
import Derived.Test.YthmhgnnaihkjaaaAFnExactKin
namespace Go.Proofs.Ythmhgnnaihkjaaa.GFnExactKin
open Go Go.Rsc Go.Proofs.Ythmhgnnaihkjaaa
set_option maxRecDepth 100000
set_option linter.unusedVariables false
set_option linter.unusedSimpArgs false
/-! ### Numbers in order, each once -/
@[reducible] def ints (R : List Int) : PV := .list (R.map PV.int)
theorem nth_ints {R : List Int} {i : Nat} (h : i < R.length) : nth (R.map PV.int) i = .int (R.getD i 0) := by simp [nth, List.getD_eq_getElem?_getD, h]
theorem ints_len (R : List Int) : (R.map PV.int).length = R.length := List.length_map ..
theorem inc_ext {a b : List Int} (ha : a.Pairwise (· < ·)) (hb : b.Pairwise (· < ·)) (h : ∀ x, x ∈ a ↔ x ∈ b) : a = b :=
  List.Perm.eq_of_pairwise (le := fun x y : Int => x < y) (fun x y _ _ h1 h2 => by omega) ha hb ((List.perm_ext_iff_of_nodup (ha.imp fun h e => by omega) (hb.imp fun h e => by omega)).2 h)
theorem arr_mono {zs : List Int} (h : zs.Pairwise (· ≤ ·)) {i j : Nat} (hij : i ≤ j) (hj : j < zs.length) : zs.toArray[i]! ≤ zs.toArray[j]! := by
  have hi : i < zs.length := by omega
  rw [getElem!_pos zs.toArray i (by simpa using hi), getElem!_pos zs.toArray j (by simpa using hj)]
  simp only [List.getElem_toArray]
  by_cases e : i = j
  · subst e; omega
  · exact List.pairwise_iff_getElem.1 h i j hi hj (by omega)
theorem cpt_up {zs : List Int} (h : zs.Pairwise (· ≤ ·)) : ∀ m, m ≤ zs.length → (Lib.compactUpTo zs.toArray m).Pairwise (· < ·) ∧ (∀ x, x ∈ Lib.compactUpTo zs.toArray m → ∃ j, j < m ∧ zs.toArray[j]! = x) ∧ ∀ j, j < m → zs.toArray[j]! ∈ Lib.compactUpTo zs.toArray m
  | 0, _ => ⟨by simp [Lib.compactUpTo], fun x hx => by simp [Lib.compactUpTo] at hx, fun j hj => by omega⟩
  | m + 1, hm => by
    obtain ⟨h1, h2, h3⟩ := cpt_up h m (by omega)
    rw [Lib.compactUpTo_succ]
    cases hk : Lib.keeps zs.toArray m with
    | true =>
      have hk : m = 0 ∨ zs.toArray[m]! ≠ zs.toArray[m - 1]! := of_decide_eq_true hk
      rw [if_pos rfl]
      refine ⟨List.pairwise_append.2 ⟨h1, by simp, fun x hx y hy => ?_⟩, fun x hx => ?_, fun j hj => ?_⟩
      · obtain ⟨j, hj, rfl⟩ := h2 x hx
        simp only [List.mem_singleton] at hy
        subst hy
        have e1 := arr_mono h (i := j) (j := m - 1) (by omega) (by omega)
        have e2 := arr_mono h (i := m - 1) (j := m) (by omega) (by omega)
        rcases hk with hk | hk
        · omega
        · omega
      · rcases List.mem_append.1 hx with hx | hx
        · obtain ⟨j, hj, e⟩ := h2 x hx
          exact ⟨j, by omega, e⟩
        · simp only [List.mem_singleton] at hx
          exact ⟨m, by omega, hx.symm⟩
      · by_cases e : j = m
        · subst e; simp
        · exact List.mem_append_left _ (h3 j (by omega))
    | false =>
      have hk : ¬ (m = 0 ∨ zs.toArray[m]! ≠ zs.toArray[m - 1]!) := of_decide_eq_false hk
      rw [if_neg (by decide), List.append_nil]
      refine ⟨h1, fun x hx => ?_, fun j hj => ?_⟩
      · obtain ⟨j, hj, e⟩ := h2 x hx
        exact ⟨j, by omega, e⟩
      · by_cases e : j = m
        · subst e
          have e2 : zs.toArray[j]! = zs.toArray[j - 1]! := by
            by_cases e3 : zs.toArray[j]! = zs.toArray[j - 1]!
            · exact e3
            · exact absurd (.inr e3) hk
          rw [e2]
          exact h3 (j - 1) (by have : ¬ j = 0 := fun e => hk (.inl e); omega)
        · exact h3 j (by omega)
theorem cpt_inc {zs : List Int} (h : zs.Pairwise (· ≤ ·)) : (Lib.compact zs).Pairwise (· < ·) ∧ ∀ x, x ∈ Lib.compact zs ↔ x ∈ zs := by
  obtain ⟨h1, h2, h3⟩ := cpt_up h zs.length (Nat.le_refl _)
  refine ⟨h1, fun x => ⟨fun hx => ?_, fun hx => ?_⟩⟩
  · obtain ⟨j, hj, rfl⟩ := h2 x hx
    rw [getElem!_pos zs.toArray j (by simpa using hj)]
    simp
  · obtain ⟨j, hj, rfl⟩ := List.getElem_of_mem hx
    have := h3 j hj
    rw [getElem!_pos zs.toArray j (by simpa using hj)] at this
    show zs[j] ∈ Lib.compactUpTo zs.toArray zs.length
    simpa using this
/-- The places of numbers: those that are 0 or more, in order, each once. -/
def atsL (f : List Int) : List Int := Lib.compact ((f.filter fun x => decide (0 ≤ x)).mergeSort fun x y => decide (x ≤ y))
theorem atsL_inc (f : List Int) : (atsL f).Pairwise (· < ·) ∧ ∀ x, x ∈ atsL f ↔ x ∈ f ∧ 0 ≤ x := by
  have hs : ((f.filter fun x => decide (0 ≤ x)).mergeSort fun x y => decide (x ≤ y)).Pairwise (· ≤ ·) := by
    have := List.pairwise_mergeSort (le := fun x y : Int => decide (x ≤ y)) (fun a b c h h' => by simp at h h' ⊢; omega) (fun a b => by simp; omega) (f.filter fun x => decide (0 ≤ x))
    exact this.imp fun h => by simpa using h
  obtain ⟨h1, h2⟩ := cpt_inc hs
  refine ⟨h1, fun x => (h2 x).trans ?_⟩
  rw [(List.mergeSort_perm _ _).mem_iff, List.mem_filter]
  simp
theorem posL_ints (f : List Int) : posL (f.map PV.int) = (f.filter fun x => decide (0 ≤ x)).map PV.int := by
  simp only [posL, List.filter_map]
  rfl
theorem toInt_ints (f : List Int) : (f.map PV.int).map PV.toInt = f := by rw [List.map_map]; exact List.map_id _
theorem places_ints (f : List Int) : cptL (sortL (posL (f.map PV.int))) = (atsL f).map PV.int := by
  rw [posL_ints]
  unfold sortL cptL
  rw [toInt_ints, toInt_ints]
  rfl
/-- A number into a row in order; it stands there once. -/
def insI (x : Int) (s : List Int) : List Int := if x ∈ s then s else s.takeWhile (· < x) ++ x :: s.dropWhile (· < x)
theorem insI_mem (x : Int) (s : List Int) (y : Int) : y ∈ insI x s ↔ y = x ∨ y ∈ s := by
  unfold insI
  split
  · rename_i h
    exact ⟨.inr, fun h' => h'.elim (fun e => e ▸ h) id⟩
  · have h := List.takeWhile_append_dropWhile (p := fun z => decide (z < x)) (l := s)
    conv => rhs; rw [← h]
    simp only [List.mem_append, List.mem_cons]
    constructor
    · rintro (h | h | h)
      · exact .inr (.inl h)
      · exact .inl h
      · exact .inr (.inr h)
    · rintro (h | h | h)
      · exact .inr (.inl h)
      · exact .inl h
      · exact .inr (.inr h)
theorem ins_go {x : Int} : ∀ {s : List Int}, s.Pairwise (· < ·) → x ∉ s → (s.takeWhile (· < x) ++ x :: s.dropWhile (· < x)).Pairwise (· < ·)
  | [], _, _ => by simp
  | a :: s, h, hx => by
    have h2 := List.pairwise_cons.1 h
    by_cases hc : a < x
    · have e : (a :: s).takeWhile (· < x) ++ x :: (a :: s).dropWhile (· < x) = a :: (s.takeWhile (· < x) ++ x :: s.dropWhile (· < x)) := by simp [hc]
      rw [e]
      refine List.pairwise_cons.2 ⟨fun y hy => ?_, ins_go h2.2 fun hm => hx (by simp [hm])⟩
      have hw := List.takeWhile_append_dropWhile (p := fun z => decide (z < x)) (l := s)
      have : y = x ∨ y ∈ s := by
        rw [← hw]
        simp only [List.mem_append, List.mem_cons] at hy ⊢
        rcases hy with h | h | h
        · exact .inr (.inl h)
        · exact .inl h
        · exact .inr (.inr h)
      rcases this with rfl | hy
      · exact hc
      · exact h2.1 y hy
    · have e : (a :: s).takeWhile (· < x) ++ x :: (a :: s).dropWhile (· < x) = x :: a :: s := by simp [hc]
      rw [e]
      have hne : a ≠ x := fun e => hx (by simp [e])
      refine List.pairwise_cons.2 ⟨fun y hy => ?_, h⟩
      rcases List.mem_cons.1 hy with rfl | hy
      · omega
      · have := h2.1 y hy; omega
theorem insI_inc {x : Int} {s : List Int} (h : s.Pairwise (· < ·)) : (insI x s).Pairwise (· < ·) := by
  unfold insI
  split
  · exact h
  · rename_i hx; exact ins_go h hx
def insP (x : Int) (s : List Int) : List Int := if 0 ≤ x then insI x s else s
theorem fold_insP : ∀ (f s : List Int), s.Pairwise (· < ·) → (f.foldl (fun s x => insP x s) s).Pairwise (· < ·) ∧ ∀ y, y ∈ f.foldl (fun s x => insP x s) s ↔ y ∈ s ∨ (y ∈ f ∧ 0 ≤ y)
  | [], s, h => ⟨h, fun y => by simp⟩
  | x :: f, s, h => by
    have h1 : (insP x s).Pairwise (· < ·) := by unfold insP; split; exact insI_inc h; exact h
    obtain ⟨g1, g2⟩ := fold_insP f (insP x s) h1
    refine ⟨g1, fun y => (g2 y).trans ?_⟩
    unfold insP
    split
    · rename_i hx
      rw [insI_mem, List.mem_cons]
      constructor
      · rintro ((rfl | h) | ⟨h, h'⟩)
        · exact .inr ⟨.inl rfl, hx⟩
        · exact .inl h
        · exact .inr ⟨.inr h, h'⟩
      · rintro (h | ⟨rfl | h, h'⟩)
        · exact .inl (.inr h)
        · exact .inl (.inl rfl)
        · exact .inr ⟨h, h'⟩
    · rename_i hx
      rw [List.mem_cons]
      constructor
      · rintro (h | ⟨h, h'⟩)
        · exact .inl h
        · exact .inr ⟨.inr h, h'⟩
      · rintro (h | ⟨rfl | h, h'⟩)
        · exact .inl h
        · exact absurd h' hx
        · exact .inr ⟨h, h'⟩
theorem ats_eq (f : List Int) : f.foldl (fun s x => insP x s) [] = atsL f := by
  obtain ⟨g1, g2⟩ := fold_insP f [] List.Pairwise.nil
  obtain ⟨h1, h2⟩ := atsL_inc f
  refine inc_ext g1 h1 fun x => ?_
  rw [g2, h2]
  simp
/-! ### Roots: a map, and a row beside a row -/
def mpV (a v : List Int) : List PV := List.zipWith (fun k x => PV.agg [.int k, .int x]) a v
def gv (a v : List Int) (x : Int) : Int := v.getD (a.idxOf x) 0
theorem mpV_cons (k : Int) (a : List Int) (x : Int) (v : List Int) : mpV (k :: a) (x :: v) = PV.agg [.int k, .int x] :: mpV a v := rfl
theorem gv_cons (k : Int) (a : List Int) (x : Int) (v : List Int) (y : Int) : gv (k :: a) (x :: v) y = if k = y then x else gv a v y := by
  unfold gv
  rw [List.idxOf_cons]
  by_cases h : k = y
  · subst h; simp
  · have e : (k == y) = false := by simpa using h
    rw [e, if_neg h]
    rfl
theorem mget_mp : ∀ {a v : List Int} {x : Int}, v.length = a.length → x ∈ a → mgetL (.int 0) x (mpV a v) = .int (gv a v x)
  | [], _, _, _, h => by cases h
  | k :: a, [], _, h, _ => by simp at h
  | k :: a, y :: v, x, h, hx => by
    rw [mpV_cons, gv_cons]
    show (if k = x then PV.int y else mgetL (.int 0) x (mpV a v)) = _
    by_cases e : k = x
    · rw [if_pos e, if_pos e]
    · rw [if_neg e, if_neg e]
      exact mget_mp (by simpa using h) (by rcases List.mem_cons.1 hx with h | h; exact absurd h.symm e; exact h)
theorem mset_mp : ∀ {a v : List Int} {x y : Int}, v.length = a.length → x ∈ a → msetL x (.int y) (mpV a v) = mpV a (v.set (a.idxOf x) y)
  | [], _, _, _, _, h => by cases h
  | k :: a, [], _, _, h, _ => by simp at h
  | k :: a, z :: v, x, y, h, hx => by
    rw [mpV_cons, List.idxOf_cons]
    show (if k = x then PV.agg [.int x, .int y] :: mpV a v else PV.agg [.int k, .int z] :: msetL x (.int y) (mpV a v)) = _
    by_cases e : k = x
    · subst e; simp [mpV]
    · have e2 : (k == x) = false := by simpa using e
      rw [if_neg e, e2, mset_mp (by simpa using h) (by rcases List.mem_cons.1 hx with h | h; exact absurd h.symm e; exact h)]
      rfl
theorem mset_new : ∀ {a v : List Int} {x y : Int}, v.length = a.length → x ∉ a → msetL x (.int y) (mpV a v) = mpV (a ++ [x]) (v ++ [y])
  | [], [], _, _, _, _ => rfl
  | [], _ :: _, _, _, h, _ => by simp at h
  | k :: a, [], _, _, h, _ => by simp at h
  | k :: a, z :: v, x, y, h, hx => by
    rw [mpV_cons]
    show (if k = x then PV.agg [.int x, .int y] :: mpV a v else PV.agg [.int k, .int z] :: msetL x (.int y) (mpV a v)) = _
    have e : ¬ k = x := fun e => hx (by simp [e])
    rw [if_neg e, mset_new (by simpa using h) fun h => hx (by simp [h])]
    rfl
theorem gv_set : ∀ {a v : List Int} {x y z : Int}, v.length = a.length → x ∈ a → gv a (v.set (a.idxOf x) z) y = if y = x then z else gv a v y
  | [], _, _, _, _, _, h => by cases h
  | k :: a, [], _, _, _, h, _ => by simp at h
  | k :: a, u :: v, x, y, z, h, hx => by
    rw [List.idxOf_cons]
    by_cases e : k = x
    · subst e
      have : (k == k) = true := by simp
      rw [this]
      show gv (k :: a) (z :: v) y = _
      rw [gv_cons, gv_cons]
      by_cases e2 : k = y
      · subst e2; simp
      · rw [if_neg e2, if_neg (Ne.symm e2), if_neg e2]
    · have e2 : (k == x) = false := by simpa using e
      rw [e2]
      show gv (k :: a) (u :: v.set (a.idxOf x) z) y = _
      rw [gv_cons, gv_cons, gv_set (by simpa using h) (by rcases List.mem_cons.1 hx with h | h; exact absurd h.symm e; exact h)]
      by_cases e3 : k = y
      · subst e3; rw [if_pos rfl, if_pos rfl, if_neg e]
      · rw [if_neg e3, if_neg e3]
def msum (v : List Int) : Nat := (v.map Int.toNat).sum
theorem msum_set : ∀ {a v : List Int} {x z : Int}, v.length = a.length → x ∈ a → msum (v.set (a.idxOf x) z) + (gv a v x).toNat = msum v + z.toNat
  | [], _, _, _, _, h => by cases h
  | k :: a, [], _, _, h, _ => by simp at h
  | k :: a, u :: v, x, z, h, hx => by
    rw [List.idxOf_cons, gv_cons]
    by_cases e : k = x
    · subst e
      have : (k == k) = true := by simp
      rw [this, if_pos rfl]
      simp only [msum, cond_true, List.set_cons_zero, List.map_cons, List.sum_cons]
      omega
    · have e2 : (k == x) = false := by simpa using e
      rw [e2, if_neg e]
      have ih := msum_set (a := a) (v := v) (x := x) (z := z) (by simpa using h) (by rcases List.mem_cons.1 hx with h | h; exact absurd h.symm e; exact h)
      simp only [msum, cond_false, List.set_cons_succ, List.map_cons, List.sum_cons] at ih ⊢
      omega
/-! ### Rounds -/
def skip (a v : List Int) (r : Int × Int) : Bool := decide (r.1 < 0) || (decide (r.2 < 0) || decide (gv a v r.1 = gv a v r.2))
def lst (a v : List Int) (r : Int × Int) : Int := if gv a v r.2 < gv a v r.1 then gv a v r.2 else gv a v r.1
def kst (a : List Int) (s : List Int × Bool) (r : Int × Int) : List Int × Bool := if skip a s.1 r then s else ((s.1.set (a.idxOf r.1) (lst a s.1 r)).set (a.idxOf r.2) (lst a s.1 r), true)
def Con (rs : List (Int × Int)) (g : Int → Int) : Prop := ∀ r, r ∈ rs → 0 ≤ r.1 → 0 ≤ r.2 → g r.1 = g r.2
structure Inv (a : List Int) (rs : List (Int × Int)) (v : List Int) : Prop where
  len : v.length = a.length
  mem : ∀ x, x ∈ a → gv a v x ∈ a
  le : ∀ x, x ∈ a → gv a v x ≤ x
  con : ∀ g, Con rs g → ∀ x, x ∈ a → g (gv a v x) = g x
section
variable {a : List Int} {rs : List (Int × Int)}
theorem kst_inv (hpos : ∀ x, x ∈ a → 0 ≤ x) {v : List Int} (h : Inv a rs v) {r : Int × Int} (hr : r ∈ rs) (h1 : 0 ≤ r.1 → r.1 ∈ a) (h2 : 0 ≤ r.2 → r.2 ∈ a) (hs : skip a v r = false) :
    r.1 ∈ a ∧ r.2 ∈ a ∧ gv a v r.1 ≠ gv a v r.2 ∧ Inv a rs ((v.set (a.idxOf r.1) (lst a v r)).set (a.idxOf r.2) (lst a v r)) ∧ msum ((v.set (a.idxOf r.1) (lst a v r)).set (a.idxOf r.2) (lst a v r)) < msum v := by
  unfold skip at hs
  simp only [Bool.or_eq_false_iff, decide_eq_false_iff_not] at hs
  obtain ⟨e1, e2, e3⟩ := hs
  have m1 := h1 (by omega)
  have m2 := h2 (by omega)
  have hne : r.1 ≠ r.2 := fun e => e3 (by rw [e])
  have hl1 : (v.set (a.idxOf r.1) (lst a v r)).length = a.length := by rw [List.length_set]; exact h.len
  have hg : ∀ y, gv a ((v.set (a.idxOf r.1) (lst a v r)).set (a.idxOf r.2) (lst a v r)) y = if y = r.2 then lst a v r else if y = r.1 then lst a v r else gv a v y := fun y => by
    rw [gv_set hl1 m2, gv_set h.len m1]
  have hmem : lst a v r ∈ a := by unfold lst; split; exact h.mem _ m2; exact h.mem _ m1
  have hle1 : lst a v r ≤ gv a v r.1 := by unfold lst; split <;> omega
  have hle2 : lst a v r ≤ gv a v r.2 := by unfold lst; split <;> omega
  refine ⟨m1, m2, e3, ⟨by rw [List.length_set]; exact hl1, fun x hx => ?_, fun x hx => ?_, fun g hc x hx => ?_⟩, ?_⟩
  · rw [hg]
    split
    · exact hmem
    · split
      · exact hmem
      · exact h.mem x hx
  · rw [hg]
    split
    · rename_i e; subst e; have := h.le _ m2; omega
    · split
      · rename_i e; subst e; have := h.le _ m1; omega
      · exact h.le x hx
  · have hgl : g (lst a v r) = g r.1 ∧ g (lst a v r) = g r.2 := by
      have c0 := hc r hr (by omega) (by omega)
      have c1 := h.con g hc _ m1
      have c2 := h.con g hc _ m2
      unfold lst
      split
      · exact ⟨by rw [c2, c0], c2⟩
      · exact ⟨c1, by rw [c1, c0]⟩
    rw [hg]
    split
    · rename_i e; subst e; exact hgl.2
    · split
      · rename_i e; subst e; exact hgl.1
      · exact h.con g hc x hx
  · have s1 := msum_set (z := lst a v r) h.len m1
    have s2 := msum_set (z := lst a v r) hl1 m2
    rw [gv_set h.len m1, if_neg (Ne.symm hne)] at s2
    have p0 := hpos _ hmem
    have p1 := hpos _ (h.mem _ m1)
    have p2 := hpos _ (h.mem _ m2)
    have : lst a v r < gv a v r.1 ∨ lst a v r < gv a v r.2 := by unfold lst; split <;> omega
    omega
theorem round_inv (hpos : ∀ x, x ∈ a → 0 ≤ x) (hin : ∀ r, r ∈ rs → (0 ≤ r.1 → r.1 ∈ a) ∧ (0 ≤ r.2 → r.2 ∈ a)) : ∀ (l : List (Int × Int)) (v : List Int) (b : Bool), (∀ r, r ∈ l → r ∈ rs) → Inv a rs v →
    Inv a rs (l.foldl (kst a) (v, b)).1 ∧ msum (l.foldl (kst a) (v, b)).1 ≤ msum v ∧ (((l.foldl (kst a) (v, b)).2 = b ∧ (l.foldl (kst a) (v, b)).1 = v ∧ ∀ r, r ∈ l → skip a v r = true) ∨ ((l.foldl (kst a) (v, b)).2 = true ∧ msum (l.foldl (kst a) (v, b)).1 < msum v))
  | [], v, b, _, h => ⟨h, Nat.le_refl _, .inl ⟨rfl, rfl, fun r hr => by cases hr⟩⟩
  | r :: l, v, b, hl, h => by
    rw [List.foldl_cons]
    cases hs : skip a v r with
    | true =>
      have e : kst a (v, b) r = (v, b) := by unfold kst; rw [if_pos hs]
      rw [e]
      obtain ⟨g1, g2, g3⟩ := round_inv hpos hin l v b (fun r hr => hl r (by simp [hr])) h
      refine ⟨g1, g2, g3.imp_left fun ⟨x1, x2, x3⟩ => ⟨x1, x2, fun r' hr' => ?_⟩⟩
      rcases List.mem_cons.1 hr' with rfl | hr'
      · exact hs
      · exact x3 r' hr'
    | false =>
      have e : kst a (v, b) r = ((v.set (a.idxOf r.1) (lst a v r)).set (a.idxOf r.2) (lst a v r), true) := by unfold kst; rw [if_neg (by rw [hs]; decide)]
      rw [e]
      obtain ⟨_, _, _, i1, i2⟩ := kst_inv hpos h (hl r (by simp)) (hin r (hl r (by simp))).1 (hin r (hl r (by simp))).2 hs
      obtain ⟨g1, g2, g3⟩ := round_inv hpos hin l _ true (fun r hr => hl r (by simp [hr])) i1
      refine ⟨g1, by omega, .inr ⟨?_, by omega⟩⟩
      rcases g3 with ⟨x1, _⟩ | ⟨x1, _⟩ <;> exact x1
/-- Where no round turns anything a root is its own root. -/
theorem fix_root {v : List Int} (h : Inv a rs v) (hs : ∀ r, r ∈ rs → skip a v r = true) {x : Int} (hx : x ∈ a) : gv a v (gv a v x) = gv a v x := by
  refine h.con (gv a v) (fun r hr h1 h2 => ?_) x hx
  have := hs r hr
  unfold skip at this
  simp only [Bool.or_eq_true, decide_eq_true_eq] at this
  rcases this with h | h | h
  · omega
  · omega
  · exact h
end
/-! ### Parts -/
def grp (r : Int → Int) (p : List Int) (x : Int) : List Int := p.filter fun y => decide (r y = x)
def rts (r : Int → Int) (p : List Int) : List Int := p.filter fun x => decide (r x = x)
def parts (r : Int → Int) (p : List Int) : List (List Int) := (rts r p).map (grp r p)
section
variable {r : Int → Int}
theorem head_grp : ∀ {p : List Int} {x : Int}, p.Pairwise (· < ·) → (∀ y, y ∈ p → r y ≤ y) → x ∈ p → r x = x → ∃ t, grp r p x = x :: t
  | [], _, _, _, h, _ => by cases h
  | y :: p, x, hp, hle, hx, hr => by
    have h2 := List.pairwise_cons.1 hp
    unfold grp
    by_cases e : y = x
    · subst e
      rw [List.filter_cons, if_pos (by simpa using hr)]
      exact ⟨_, rfl⟩
    · have hx2 : x ∈ p := by rcases List.mem_cons.1 hx with h | h; exact absurd h.symm e; exact h
      have h3 := h2.1 x hx2
      have h4 := hle y (by simp)
      rw [List.filter_cons, if_neg (by simp; omega)]
      exact head_grp h2.2 (fun z hz => hle z (by simp [hz])) hx2 hr
theorem grp_snoc (p : List Int) (n x : Int) : grp r (p ++ [n]) x = grp r p x ++ if r n = x then [n] else [] := by
  unfold grp
  rw [List.filter_append]
  congr 1
  by_cases h : r n = x <;> simp [h]
theorem rts_snoc (p : List Int) (n : Int) : rts r (p ++ [n]) = rts r p ++ if r n = n then [n] else [] := by
  unfold rts
  rw [List.filter_append]
  congr 1
  by_cases h : r n = n <;> simp [h]
theorem mem_rts {p : List Int} {x : Int} : x ∈ rts r p ↔ x ∈ p ∧ r x = x := by simp [rts]
/-- A number that is its own root begins a part. -/
theorem parts_new {p : List Int} {n : Int} (hlt : ∀ y, y ∈ p → y < n) (hle : ∀ y, y ∈ p → r y ≤ y) (hr : r n = n) : parts r (p ++ [n]) = parts r p ++ [[n]] := by
  unfold parts
  rw [rts_snoc, if_pos hr, List.map_append]
  congr 1
  · refine List.map_congr_left fun x hx => ?_
    have h1 := hlt x (mem_rts.1 hx).1
    rw [grp_snoc, if_neg (by omega), List.append_nil]
  · rw [List.map_singleton, grp_snoc, if_pos hr]
    have : grp r p n = [] := by
      unfold grp
      rw [List.filter_eq_nil_iff]
      intro y hy
      have h1 := hlt y hy
      have h2 := hle y hy
      simp; omega
    rw [this]; rfl
theorem parts_old {p : List Int} {n : Int} (hnd : p.Nodup) (hr : r n ≠ n) : parts r (p ++ [n]) = (parts r p).set ((rts r p).idxOf (r n)) (grp r p (r n) ++ [n]) := by
  unfold parts
  rw [rts_snoc, if_neg hr, List.append_nil]
  have hnd2 : (rts r p).Nodup := hnd.sublist (List.filter_sublist ..)
  generalize hR : rts r p = R at hnd2
  clear hR
  induction R with
  | nil => rfl
  | cons x R ih =>
    have h2 := List.nodup_cons.1 hnd2
    rw [List.map_cons, List.map_cons, List.idxOf_cons]
    by_cases e : x = r n
    · subst e
      have : (r n == r n) = true := by simp
      rw [this]
      simp only [cond_true, List.set_cons_zero]
      rw [grp_snoc, if_pos rfl]
      congr 1
      refine List.map_congr_left fun y hy => ?_
      have : ¬ r n = y := fun e => h2.1 (e ▸ hy)
      rw [grp_snoc, if_neg this, List.append_nil]
    · have e2 : (x == r n) = false := by simpa using e
      rw [e2]
      simp only [cond_false, List.set_cons_succ]
      rw [grp_snoc, if_neg (Ne.symm e), List.append_nil, ih h2.2]
end
end Go.Proofs.Ythmhgnnaihkjaaa.GFnExactKin
