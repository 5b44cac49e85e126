/- What functions of the program and of the reference come to, for the law FnMoved. Each under the conditions that it names. -/
import Derived.Test.YthmhgnnaihkjaaaGreatDoorBFnMoved
namespace Go.Proofs.YthmhgnnaihkjaaaGreatDoor.GFnMoved
open Go Go.Rsc Go.Proofs.YthmhgnnaihkjaaaGreatDoor
set_option maxRecDepth 100000
set_option linter.unusedVariables false
set_option linter.unusedSimpArgs false
/-! ### Roots -/
def allP (P : List Nat) (R : List Int) : Bool := R.all (there P)
theorem notThereI (P : List Nat) (w : Int) (hs : P.Pairwise (· < ·)) (hP : P.length ≤ 1048576) : Rn 52 [.int w, nats P] [.bool (!there P w)] := by
  refine Is.of e52 ((isIntI w).mp2 (isBlockI P w hs hP) fun n q1 q2 => ?_)
  rw [bad_there]
  cases c1 : (!eqI (w % 2) 0 && okW (w / 2)) <;> cases c2 : (eqI (w % 2) 0 && inP P (w / 2)) <;> rw [c1] at q1 <;> rw [c2] at q2 <;> simp [F52, q1, q2]
theorem drop_gw {R : List Int} {i : Nat} (h : i < R.length) : R.drop i = gw R i :: R.drop (i + 1) := by
  rw [List.drop_eq_getElem_cons h]
  simp [gw, List.getD_eq_getElem?_getD, h]
theorem idxLoop (P : List Nat) (R : List Int) (hs : P.Pairwise (· < ·)) (hP : P.length ≤ 1048576) (hR : R.length ≤ 1048576) : ∀ (j i : Nat), i + j = R.length → ∃ r : Nat, Evt fun n => ∀ m, j + 1 ≤ m → loopEv (L74_0 (ev Tryz.prog sg n) n) m [.int i, .int R.length, words R, nats P] = if allP P (R.drop i) then some (.x 0, []) else some (.r, [.int r]) := by
  have hl := wordsLen R
  intro j
  induction j with
  | zero =>
    intro i hi
    refine ⟨0, Evt.all fun n m hm => ?_⟩
    obtain ⟨m, rfl⟩ : ∃ m', m = m' + 1 := ⟨m - 1, by omega⟩
    have e : R.drop i = [] := List.drop_eq_nil_iff.2 (by omega)
    simp (disch := omega) [loopEv, L74_0, ltF, e, allP]
  | succ j ih =>
    intro i hi
    have hn := nth_gw (W := R) (i := i) (by omega)
    have hd := drop_gw (R := R) (i := i) (by omega)
    cases hc : there P (gw R i) with
    | true =>
      obtain ⟨r, hr⟩ := ih (i + 1) (by omega)
      refine ⟨r, (notThereI P (gw R i) hs hP).mp2 hr fun n q1 q2 m hm => ?_⟩
      obtain ⟨m, rfl⟩ : ∃ m', m = m' + 1 := ⟨m - 1, by omega⟩
      rw [hc] at q1
      have hB : L74_0 (ev Tryz.prog sg n) n [.int i, .int R.length, words R, nats P] = some (.n, [.int (i + 1 : Nat), .int R.length, words R, nats P]) := by
        simp (disch := omega) [L74_0, ltT, geT, hl, hn, q1, wrap64]
      simp only [loopEv, hB, thenN_n]
      rw [q2 m (by omega), hd]
      simp [allP, hc]
    | false =>
      refine ⟨i, (notThereI P (gw R i) hs hP).mp fun n q1 m hm => ?_⟩
      obtain ⟨m, rfl⟩ : ∃ m', m = m' + 1 := ⟨m - 1, by omega⟩
      rw [hc] at q1
      have hB : L74_0 (ev Tryz.prog sg n) n [.int i, .int R.length, words R, nats P] = some (.r, [.int i]) := by
        simp (disch := omega) [L74_0, ltT, geT, hl, hn, q1]
      rw [hd]
      simp [loopEv, hB, allP, hc]
theorem anyI (P : List Nat) (R : List Int) (hs : P.Pairwise (· < ·)) (hP : P.length ≤ 1048576) (hR : R.length ≤ 1048576) : Rn 51 [words R, nats P] [.bool (!allP P R)] := by
  have hl := wordsLen R
  obtain ⟨r, hr⟩ := idxLoop P R hs hP hR R.length 0 (by omega)
  have h1 : Rn 74 [words R, nats P] [.int (if allP P R then -1 else (r : Int))] := by
    refine Is.of e74 (hr.mp2 (Evt.ge (R.length + 1)) fun n q1 q2 => ?_)
    have q1 := q1 n q2
    simp only [List.drop_zero, show ((0 : Nat) : Int) = 0 from rfl] at q1
    cases hc : allP P R <;> rw [hc] at q1 <;> simp at q1 <;> simp [F74, hl, q1]
  refine Is.of e51 (h1.mp fun n q => ?_)
  cases hc : allP P R <;> rw [hc] at q <;> simp at q <;> simp (disch := omega) [F51, q, geT, geF]
theorem range_gw {f : Int → Bool} (R : List Int) : ((List.range R.length).all fun i => f (gw R i)) = R.all f := by
  rw [Bool.eq_iff_iff, List.all_eq_true, List.all_eq_true]
  constructor
  · intro h x hx
    obtain ⟨i, hi, rfl⟩ := List.getElem_of_mem hx
    have := h i (by simpa using hi)
    simpa [gw, List.getD_eq_getElem?_getD, hi] using this
  · intro h i hi
    have hi : i < R.length := by simpa using hi
    exact h _ (by simp [gw, List.getD_eq_getElem?_getD, hi])
def rootsB (W : List Int) (half base next : Int) (R : List Int) : Bool := heapB W half base next && allP (plcs W base next) R
theorem heapB_pre {W : List Int} {half base next : Int} (h : heapB W half base next = true) : (preB W half base next && plcsB W base next) = true ∧ Pre W half base next := by
  simp only [heapB, Bool.and_eq_true] at h
  refine ⟨by simp [h.1, h.2.1], pre_of h.1⟩
theorem rootsI {W : List Int} {half base next : Int} {R : List Int} (hW : W.length ≤ 1048576) (hR : R.length ≤ 1048576) : Rn 22 [heapV W half base next, words R] [.bool (rootsB W half base next R)] := by
  have h1 := heapI (half := half) (base := base) (next := next) hW
  cases hc : heapB W half base next with
  | false =>
    rw [hc] at h1
    exact Is.of e22 (h1.mp fun n q => by simp [F22, q, rootsB, hc])
  | true =>
    have hb := blocksI (half := half) (base := base) (next := next) hW
    rw [hc] at h1
    rw [(heapB_pre hc).1] at hb
    simp only [if_true] at hb
    have hP := plcs_len W base next
    refine Is.of e22 (h1.mp3 hb (anyI (plcs W base next) R (plcs_sorted W base next) (by omega) hR) fun n q1 q2 q3 => ?_)
    simp [F22, q1, q2, q3, rootsB, hc]
theorem wordsOf {q : PV} (h : WfT Tryz.prog 24 q) (hw : q.wt ≤ 1048576) : ∃ W : List Int, q = words W ∧ W.length ≤ 1048576 ∧ ∀ w, w ∈ W → -9223372036854775808 ≤ w ∧ w < 9223372036854775808 := by
  obtain ⟨l, rfl, hl, he⟩ := wf_slice (e := 3) (by kernel_rfl) h
  obtain ⟨W, rfl⟩ := words_of fun q hq => by
    obtain ⟨x, e, _⟩ := wf_int (k := .i64) (by kernel_rfl) (he q hq)
    exact ⟨x, e⟩
  refine ⟨W, rfl, by simp at hw; omega, fun w hm => ?_⟩
  obtain ⟨x, e, hx⟩ := wf_int (k := .i64) (by kernel_rfl) (he (.int w) (List.mem_map.2 ⟨w, hm, rfl⟩))
  cases e
  exact wf64 hx
/-! ### Blocks that are moved: what lies where -/
def kids (W : List Int) (p : Nat) : List Int := (List.range (mny (gw W p))).map fun k => gw W (p + 1 + k)
def raw (W : List Int) (p : Nat) : List Int := gw W p :: kids W p
def addW (was : List Nat) (x : Int) : List Nat := if x % 2 = 0 ∧ (x / 2).toNat ∉ was then was ++ [(x / 2).toNat] else was
def nowL (W : List Int) : Nat → List Nat → List Nat
  | _, [] => []
  | b, p :: l => b :: nowL W (b + 1 + mny (gw W p)) l
def sumB (W : List Int) : List Nat → Nat
  | [] => 0
  | p :: l => 1 + mny (gw W p) + sumB W l
def ix : List Nat → Nat → Nat
  | [], _ => 0
  | q :: l, p => if q = p then 0 else ix l p + 1
theorem kids_len (W : List Int) (p : Nat) : (kids W p).length = mny (gw W p) := by simp [kids]
theorem raw_len (W : List Int) (p : Nat) : (raw W p).length = 1 + mny (gw W p) := by simp [raw, kids_len]; omega
theorem kids_gw {W : List Int} {p k : Nat} (h : k < mny (gw W p)) : gw (kids W p) k = gw W (p + 1 + k) := by
  show (kids W p).getD k 0 = _
  unfold kids
  rw [List.getD_eq_getElem?_getD, List.getElem?_map, List.getElem?_range h]
  rfl
theorem raw_gw {W : List Int} {p k : Nat} (h : k < 1 + mny (gw W p)) : gw (raw W p) k = gw W (p + k) := by
  cases k with
  | zero => simp [raw, gw]
  | succ k =>
    have := kids_gw (W := W) (p := p) (k := k) (by omega)
    rw [show p + (k + 1) = p + 1 + k by omega, ← this]
    simp [raw, gw]
theorem nowL_len (W : List Int) : ∀ (l : List Nat) (b : Nat), (nowL W b l).length = l.length
  | [], _ => rfl
  | p :: l, b => by simp [nowL, nowL_len W l]
theorem sumB_append (W : List Int) : ∀ (l m : List Nat), sumB W (l ++ m) = sumB W l + sumB W m
  | [], m => by simp [sumB]
  | p :: l, m => by simp only [List.cons_append, sumB, sumB_append W l m]; omega
theorem nowL_snoc (W : List Int) (p : Nat) : ∀ (l : List Nat) (b : Nat), nowL W b (l ++ [p]) = nowL W b l ++ [b + sumB W l]
  | [], b => by simp [nowL, sumB]
  | q :: l, b => by
    simp only [List.cons_append, nowL, nowL_snoc W p l, sumB, List.cons.injEq, true_and]
    congr 2
    omega
theorem gp_snoc_lt {l : List Nat} {x i : Nat} (h : i < l.length) : gp (l ++ [x]) i = gp l i := by
  simp [gp, List.getD_eq_getElem?_getD, List.getElem?_append_left h]
theorem ix_lt : ∀ {l : List Nat} {p : Nat}, p ∈ l → ix l p < l.length ∧ gp l (ix l p) = p ∧ ∀ t, t < ix l p → gp l t ≠ p
  | q :: l, p, h => by
    simp only [ix]
    split
    · rename_i e
      exact ⟨by simp, by simp [gp, e], fun t ht => by omega⟩
    · rename_i e
      have hm : p ∈ l := (List.mem_cons.1 h).resolve_left fun e2 => e e2.symm
      obtain ⟨h1, h2, h3⟩ := ix_lt hm
      refine ⟨by simp; exact h1, by simpa [gp] using h2, fun t ht => ?_⟩
      cases t with
      | zero => simpa [gp] using e
      | succ t => simpa [gp] using h3 t (by omega)
theorem ix_eq : ∀ {l : List Nat} {p i : Nat}, i < l.length → gp l i = p → (∀ t, t < i → gp l t ≠ p) → ix l p = i
  | q :: l, p, 0, _, h, _ => by simp [gp] at h; simp [ix, h]
  | q :: l, p, i + 1, hi, h, h2 => by
    have h0 : q ≠ p := by simpa [gp] using h2 0 (by omega)
    have := ix_eq (l := l) (p := p) (i := i) (by simpa using hi) (by simpa [gp] using h) (fun t ht => by simpa [gp] using h2 (t + 1) (by omega))
    simp [ix, h0, this]
theorem ix_append {l m : List Nat} {p : Nat} (h : p ∈ l) : ix (l ++ m) p = ix l p := by
  obtain ⟨h1, h2, h3⟩ := ix_lt h
  have e : ∀ t, t < l.length → gp (l ++ m) t = gp l t := fun t ht => by simp [gp, List.getD_eq_getElem?_getD, List.getElem?_append_left ht]
  exact ix_eq (by simp; omega) (by rw [e _ h1, h2]) fun t ht => by rw [e t (by omega)]; exact h3 t ht
/-- A word, behind the move. -/
def mv (W : List Int) (b : Nat) (was : List Nat) (x : Int) : Int := if x % 2 = 0 then 2 * (gp (nowL W b was) (ix was (x / 2).toNat) : Int) else x
def inW (was : List Nat) (x : Int) : Prop := x % 2 = 0 → (x / 2).toNat ∈ was
theorem inW_add (was : List Nat) (x : Int) : inW (addW was x) x := by
  intro h
  unfold addW
  split
  · simp
  · rename_i hn
    exact Decidable.byContradiction fun e => hn ⟨h, e⟩
theorem inW_mono {was : List Nat} {x y : Int} (h : inW was x) : inW (addW was y) x := by
  intro he
  unfold addW
  split
  · exact List.mem_append_left _ (h he)
  · exact h he
theorem mv_add {W : List Int} {b : Nat} {was : List Nat} {x : Int} (h : inW was x) (y : Int) : mv W b (addW was y) x = mv W b was x := by
  unfold addW
  split
  · unfold mv
    split
    · rename_i he
      have hm := h he
      obtain ⟨h1, _⟩ := ix_lt hm
      rw [ix_append hm, nowL_snoc, gp_snoc_lt (by rw [nowL_len]; exact h1)]
    · rfl
  · rfl
theorem sum_sub {W : List Int} : ∀ {was P : List Nat}, was.Nodup → (∀ p, p ∈ was → p ∈ P) → sumB W was ≤ sumB W P
  | [], P, _, _ => by simp [sumB]
  | p :: was, P, hn, hs => by
    obtain ⟨P1, P2, rfl⟩ := List.append_of_mem (hs p (by simp))
    have hn2 := List.nodup_cons.1 hn
    have := sum_sub (W := W) (was := was) (P := P1 ++ P2) hn2.2 fun q hq => by
      have h1 := hs q (by simp [hq])
      simp only [List.mem_append, List.mem_cons] at h1 ⊢
      rcases h1 with h1 | rfl | h1
      · exact .inl h1
      · exact absurd hq hn2.1
      · exact .inr h1
    rw [sumB_append] at this ⊢
    simp only [sumB]
    omega
theorem len_sub : ∀ {was P : List Nat}, was.Nodup → (∀ p, p ∈ was → p ∈ P) → was.length ≤ P.length
  | [], P, _, _ => by simp
  | p :: was, P, hn, hs => by
    obtain ⟨P1, P2, rfl⟩ := List.append_of_mem (hs p (by simp))
    have hn2 := List.nodup_cons.1 hn
    have := len_sub (was := was) (P := P1 ++ P2) hn2.2 fun q hq => by
      have h1 := hs q (by simp [hq])
      simp only [List.mem_append, List.mem_cons] at h1 ⊢
      rcases h1 with h1 | rfl | h1
      · exact .inl h1
      · exact absurd hq hn2.1
      · exact .inr h1
    simp at this ⊢
    omega
theorem sum_plc {W : List Int} {next : Nat} : ∀ {k at_ : Nat}, next ≤ at_ + k → at_ ≤ next → (plc W next k at_).1 = true → at_ + sumB W (plc W next k at_).2 = next
  | 0, at_, h1, h2, _ => by simp [plc, sumB]; omega
  | k + 1, at_, h1, h2, h3 => by
    simp only [plc] at h3 ⊢
    split at h3
    · rename_i hlt
      rw [if_pos hlt]
      split at h3
      · rename_i hc
        rw [if_pos hc]
        simp only [Bool.and_eq_true, decide_eq_true_eq] at hc
        have := sum_plc (k := k) (at_ := at_ + 1 + mny (gw W at_)) (by omega) (by omega) h3
        simp only [sumB]
        omega
      · cases h3
    · rename_i hlt
      rw [if_neg hlt]
      simp [sumB]
      omega
/-- The blocks that are come to: was stands for what is there already. -/
structure Way (P was : List Nat) : Prop where
  nodup : was.Nodup
  sub : ∀ p, p ∈ was → p ∈ P
theorem Way.add {P was : List Nat} (h : Way P was) {x : Int} (hx : there P x = true) : Way P (addW was x) := by
  unfold addW
  split
  · rename_i hc
    refine ⟨?_, fun p hp => ?_⟩
    · rw [List.nodup_append]
      refine ⟨h.nodup, by simp, fun a ha b hb => ?_⟩
      simp only [List.mem_singleton] at hb
      subst hb
      exact fun e => hc.2 (e ▸ ha)
    · rcases List.mem_append.1 hp with hp | hp
      · exact h.sub p hp
      · simp only [List.mem_singleton] at hp
        unfold there at hx
        rw [eqT hc.1] at hx
        simp at hx
        obtain ⟨q, hq, e⟩ := inP_iff.1 hx
        rw [hp, show (x / 2).toNat = q by omega]
        exact hq
  · exact h
structure SOk (W : List Int) (half base next : Int) (P : List Nat) : Prop where
  pre : Pre W half base next
  mem : ∀ p, p ∈ P → p + 1 + mny (gw W p) ≤ W.length ∧ okHd (gw W p) = true
  sum : (sumB W P : Int) ≤ half
  kid : ∀ p, p ∈ P → ∀ x, x ∈ kids W p → there P x = true
  plen : P.length ≤ 3000
theorem sok {W : List Int} {half base next : Int} (h : heapB W half base next = true) : SOk W half base next (plcs W base next) := by
  obtain ⟨h1, h2⟩ := heapB_pre h
  have hr := h2.rng
  simp only [Bool.and_eq_true] at h1
  refine ⟨h2, fun p hp => plcs_in h2 hp, ?_, fun p hp x hx => ?_, plcs_len W base next⟩
  · have := sum_plc (W := W) (next := next.toNat) (k := 3000) (at_ := base.toNat) (by omega) (by omega) h1.2
    have := h2.h4
    unfold plcs
    omega
  · simp only [heapB, Bool.and_eq_true] at h
    obtain ⟨i, hi, e⟩ := List.getElem_of_mem hp
    have := List.all_eq_true.1 h.2.2 i (by simpa using hi)
    have e2 : gp (plcs W base next) i = p := by simp [gp, List.getD_eq_getElem?_getD, hi, e]
    rw [e2] at this
    unfold kidB at this
    unfold kids at hx
    obtain ⟨k, hk, rfl⟩ := List.mem_map.1 hx
    exact List.all_eq_true.1 this k hk
abbrev toV (A : List Int) (n : Nat) (half b : Int) : PV := heapV (A ++ List.replicate (n - A.length) 0) half b A.length
abbrev stV (hv : PV) (A : List Int) (n : Nat) (half b : Int) (was now : List Nat) : PV := .agg [hv, toV A n half b, nats was, nats now]
theorem refWS {p : Int} (h0 : 0 ≤ p) (h1 : p ≤ 6000) : Rn 73 [.int p] [.int (2 * p)] := by
  refine Is.of e73 ((is51 p 0 6000).mp fun n q => ?_)
  rw [show okR p 0 6000 = true by simp [okR]; omega] at q
  simp (disch := omega) [F73, q, wrap64]
theorem moveOdd {st : PV} {x : Int} (h : x % 2 ≠ 0) : Rn 4154 [st, .int x] [.int x, st] := by
  refine Is.of e4154 ((refS x).mp fun n q => ?_)
  rw [eqF h] at q
  simp [F4154, q]
theorem findS (hv tv : PV) (was now : List Nat) (p : Nat) (hl : now.length = was.length) (hw : was.length ≤ 10000) (hnow : ∀ t, t < now.length → gp now t ≤ 6000) : ∀ (j i : Nat), i + j = was.length → (∀ t, t < i → gp was t ≠ p) →
    Evt fun n => ∀ m, j + 1 ≤ m → loopEv (L4154_0 (ev Tryz.prog sg n) n) m [.int i, .int p, .agg [hv, tv, nats was, nats now]] = if p ∈ was then some (.r, [.agg [hv, tv, nats was, nats now], .int (2 * (gp now (ix was p) : Int))]) else some (.x 0, [.int p, .agg [hv, tv, nats was, nats now]]) := by
  have l1 := natsLen was
  have l2 := natsLen now
  intro j
  induction j with
  | zero =>
    intro i hi hn
    have hm : p ∉ was := fun hm => by
      obtain ⟨h1, h2, _⟩ := ix_lt hm
      exact hn _ (by omega) h2
    refine Evt.all fun n m hm2 => ?_
    obtain ⟨m, rfl⟩ : ∃ m', m = m' + 1 := ⟨m - 1, by omega⟩
    have hB : L4154_0 (ev Tryz.prog sg n) n [.int i, .int p, .agg [hv, tv, nats was, nats now]] = some (.x 0, [.int p, .agg [hv, tv, nats was, nats now]]) := by
      simp (disch := omega) [L4154_0, ltF, l1]
    simp [loopEv, hB, hm]
  | succ j ih =>
    intro i hi hn
    have hw1 := nth_gp (P := was) (i := i) (by omega)
    have hw2 := nth_gp (P := now) (i := i) (by omega)
    by_cases he : gp was i = p
    · have hix := ix_eq (by omega) he hn
      have hm : p ∈ was := he ▸ gp_mem (by omega)
      have hle := hnow i (by omega)
      refine (refWS (p := (gp now i : Int)) (by omega) (by omega)).mp fun n q m hm2 => ?_
      obtain ⟨m, rfl⟩ : ∃ m', m = m' + 1 := ⟨m - 1, by omega⟩
      have hB : L4154_0 (ev Tryz.prog sg n) n [.int i, .int p, .agg [hv, tv, nats was, nats now]] = some (.r, [.agg [hv, tv, nats was, nats now], .int (2 * (gp now i : Int))]) := by
        simp (disch := omega) [L4154_0, ltT, geT, l1, l2, hw1, hw2, eqT, he, q]
      simp [loopEv, hB, hm, hix]
    · refine (ih (i + 1) (by omega) fun t ht => ?_).mp fun n q m hm2 => ?_
      · by_cases e : t = i
        · subst e; exact he
        · exact hn t (by omega)
      obtain ⟨m, rfl⟩ : ∃ m', m = m' + 1 := ⟨m - 1, by omega⟩
      have hne : ¬ (gp was i : Int) = (p : Int) := by omega
      have hB : L4154_0 (ev Tryz.prog sg n) n [.int i, .int p, .agg [hv, tv, nats was, nats now]] = some (.n, [.int (i + 1 : Nat), .int p, .agg [hv, tv, nats was, nats now]]) := by
        simp (disch := omega) [L4154_0, ltT, geT, l1, hw1, eqF, hne, wrap64]
      simp only [loopEv, hB, thenN_n]
      exact q m (by omega)
theorem take_raw {W : List Int} {p k : Nat} (h : k < 1 + mny (gw W p)) : (raw W p).take (k + 1) = (raw W p).take k ++ [gw W (p + k)] := by
  have hl := raw_len W p
  rw [List.take_add_one, List.getElem?_eq_getElem (by omega)]
  have := raw_gw (W := W) (p := p) (k := k) h
  unfold gw at this
  rw [List.getD_eq_getElem?_getD, List.getElem?_eq_getElem (by omega)] at this
  simp only [Option.getD_some] at this
  rw [this]
  rfl
theorem put_raw {W A : List Int} {p k n : Nat} (h : k < 1 + mny (gw W p)) (hn : A.length + (1 + mny (gw W p)) ≤ n) :
    (A ++ ((raw W p).take k ++ List.replicate (n - A.length - k) 0)).set (A.length + k) (gw W (p + k)) = A ++ ((raw W p).take (k + 1) ++ List.replicate (n - A.length - (k + 1)) 0) := by
  have hl := raw_len W p
  have ht : ((raw W p).take k).length = k := by rw [List.length_take]; omega
  rw [List.set_append_right _ _ (by omega), List.set_append_right _ _ (by omega), Nat.add_sub_cancel_left, ht, Nat.sub_self]
  obtain ⟨m, hm⟩ : ∃ m, n - A.length - k = m + 1 := ⟨n - A.length - k - 1, by omega⟩
  rw [hm, show n - A.length - (k + 1) = m by omega, take_raw h, List.replicate_succ]
  simp
section
variable {W : List Int} {half base next : Int} {P : List Nat}
theorem copyS (h : SOk W half base next P) {p : Nat} (hp : p ∈ P) (A : List Int) (n : Nat) (b : Int) (ws ns : PV) (hn : A.length + (1 + mny (gw W p)) ≤ n) (hn2 : n ≤ 6000) :
    Evt fun N => loopEv (L4154_1 (ev Tryz.prog sg N) N) N [.int 0, .int (mny (gw W p)), .int p, .int A.length, .agg [heapV W half base next, toV A n half b, ws, ns]] = some (.x 2, [.int (mny (gw W p)), .int p, .int A.length, .agg [heapV W half base next, heapV (A ++ (raw W p ++ List.replicate (n - A.length - (1 + mny (gw W p))) 0)) half b A.length, ws, ns]]) := by
  have hr := h.pre.rng
  obtain ⟨hm, _⟩ := h.mem p hp
  have hrl := raw_len W p
  have hl := wordsLen W
  have hTl : ∀ k, k ≤ 1 + mny (gw W p) → (A ++ ((raw W p).take k ++ List.replicate (n - A.length - k) (0 : Int))).length = n := fun k hk => by
    simp only [List.length_append, List.length_take, List.length_replicate, hrl]; omega
  have h1 := loop_run (body := fun N => L4154_1 (ev Tryz.prog sg N) N) (fun k => [.int k, .int (mny (gw W p)), .int p, .int A.length, .agg [heapV W half base next, heapV (A ++ ((raw W p).take k ++ List.replicate (n - A.length - k) 0)) half b A.length, ws, ns]]) (1 + mny (gw W p)) (e := .x 2)
    (res := [.int (mny (gw W p)), .int p, .int A.length, .agg [heapV W half base next, heapV (A ++ (raw W p ++ List.replicate (n - A.length - (1 + mny (gw W p))) 0)) half b A.length, ws, ns]]) (fun k hk => Evt.all fun N => ?_) (Evt.all fun N => ?_) (by simp)
  · simpa using h1
  · have hn1 := nth_gw (W := W) (i := p + k) (by omega)
    have e1 : ((p : Int) + (k : Int)).toNat = p + k := by omega
    have e2 : ((A.length : Int) + (k : Int)).toNat = A.length + k := by omega
    have hT := hTl k (by omega)
    have hTm := wordsLen (A ++ ((raw W p).take k ++ List.replicate (n - A.length - k) (0 : Int)))
    have hput := put_raw (W := W) (A := A) (n := n) hk hn
    have hset : ((A ++ ((raw W p).take k ++ List.replicate (n - A.length - k) (0 : Int))).map PV.int).set (A.length + k) (.int (gw W (p + k))) = (A ++ ((raw W p).take (k + 1) ++ List.replicate (n - A.length - (k + 1)) 0)).map PV.int := by rw [← hput, List.map_set]
    generalize A ++ ((raw W p).take k ++ List.replicate (n - A.length - k) (0 : Int)) = T at hT hTm hset
    generalize A ++ ((raw W p).take (k + 1) ++ List.replicate (n - A.length - (k + 1)) (0 : Int)) = T' at hset
    simp (disch := omega) [L4154_1, leT, geT, ltT, wrap64, hl, hTm, e1, e2, hn1, hset]
  · have e0 : (raw W p).take (1 + mny (gw W p)) = raw W p := by rw [← hrl, List.take_length]
    rw [e0]
    generalize A ++ (raw W p ++ List.replicate (n - A.length - (1 + mny (gw W p))) (0 : Int)) = T
    simp (disch := omega) [L4154_1, leF]
def addA (W : List Int) (was : List Nat) (x : Int) : List Int := if x % 2 = 0 ∧ (x / 2).toNat ∉ was then raw W (x / 2).toNat else []
theorem nowL_le {W : List Int} : ∀ (l : List Nat) (b t : Nat), t < (nowL W b l).length → gp (nowL W b l) t ≤ b + sumB W l
  | [], _, t, h => by simp [nowL] at h
  | p :: l, b, 0, h => by simp [nowL, gp]
  | p :: l, b, t + 1, h => by
    have := nowL_le l (b + 1 + mny (gw W p)) t (by simpa [nowL] using h)
    simp only [sumB]
    have e : gp (nowL W b (p :: l)) (t + 1) = gp (nowL W (b + 1 + mny (gw W p)) l) t := by simp [nowL, gp]
    omega
theorem moveA (h : SOk W half base next P) {was : List Nat} (hw : Way P was) {A : List Int} {n b : Nat} (hb : (b : Int) + half ≤ n) (hn2 : n ≤ 6000) (hA : A.length = b + sumB W was) {x : Int} (hx : there P x = true) :
    Rn 4154 [stV (heapV W half base next) A n half b was (nowL W b was), .int x] [.int (mv W b (addW was x) x), stV (heapV W half base next) (A ++ addA W was x) n half b (addW was x) (nowL W b (addW was x))] := by
  have hr := h.pre.rng
  have hsum := sum_sub (W := W) hw.nodup hw.sub
  have hlen := len_sub hw.nodup hw.sub
  have hs := h.sum
  have hpl := h.plen
  by_cases he : x % 2 = 0
  rotate_left
  · have e1 : mv W b (addW was x) x = x := by simp [mv, he]
    have e2 : addW was x = was := by simp [addW, he]
    have e3 : addA W was x = [] := by simp [addA, he]
    rw [e1, e2, e3, List.append_nil]
    exact moveOdd he
  have ht : inP P (x / 2) = true := by
    unfold there at hx
    rw [eqT he] at hx
    simpa using hx
  obtain ⟨p, hp, hpe⟩ := inP_iff.1 ht
  have hpn : (x / 2).toNat = p := by omega
  have hnl := nowL_len W was b
  have hf := findS (heapV W half base next) (toV A n half b) was (nowL W b was) p hnl (by omega) (fun t ht => by have := nowL_le (W := W) was b t ht; omega) was.length 0 (by omega) (fun t ht => by omega)
  have r1 := refS x
  rw [eqT he] at r1
  have r2 := wrefS x
  rw [← hpe] at r2
  by_cases hm : p ∈ was
  · have e2 : addW was x = was := by simp [addW, he, hpn, hm]
    have e3 : addA W was x = [] := by simp [addA, he, hpn, hm]
    have e1 : mv W b was x = 2 * (gp (nowL W b was) (ix was p) : Int) := by simp [mv, he, hpn]
    rw [e2, e3, e1, List.append_nil]
    simp only [hm, if_true] at hf
    refine Is.of e4154 ((r1.and r2).mp3 hf (Evt.ge (was.length + 1)) fun N ⟨q1, q2⟩ q3 q4 => ?_)
    have q3 := q3 N q4
    simp only [show ((0 : Nat) : Int) = 0 from rfl] at q3
    simp [F4154, q1, q2, q3]
  · have e2 : addW was x = was ++ [p] := by simp [addW, he, hpn, hm]
    have e3 : addA W was x = raw W p := by simp [addA, he, hpn, hm]
    have hw2 := hw.add hx
    rw [e2] at hw2
    have hsum2 := sum_sub (W := W) hw2.nodup hw2.sub
    rw [sumB_append] at hsum2
    simp only [sumB] at hsum2
    have hix : ix (was ++ [p]) p = was.length := ix_eq (by simp) (by simp [gp]) fun t ht => by
      rw [gp_snoc_lt ht]
      exact fun e => hm (e ▸ gp_mem ht)
    have e1 : mv W b (was ++ [p]) x = 2 * (A.length : Int) := by
      have : gp (nowL W b (was ++ [p])) was.length = b + sumB W was := by
        rw [nowL_snoc]
        simp [gp, ← hnl]
      simp [mv, he, hpn, hix, this, hA]
    rw [e2, e3, e1, nowL_snoc]
    simp only [hm, if_false] at hf
    obtain ⟨hmm, _⟩ := h.mem p hp
    have hn1 := nth_gw (W := W) (i := p) (by omega)
    have hl := wordsLen W
    have r3 := ofS (gw W p)
    have r4 := copyS h hp A n b (nats was) (nats (nowL W b was)) (by omega) hn2
    have r5 := refWS (p := (A.length : Int)) (by omega) (by omega)
    have hrl := raw_len W p
    have l1 := natsLen was
    have l2 := natsLen (nowL W b was)
    have eT : A ++ (raw W p ++ List.replicate (n - A.length - (1 + mny (gw W p))) (0 : Int)) = A ++ raw W p ++ List.replicate (n - (A ++ raw W p).length) 0 := by
      rw [List.length_append, hrl, List.append_assoc]
      congr 3
      omega
    have eN : IntKind.i64.wrap (IntKind.i64.wrap ((A.length : Int) + 1) + (mny (gw W p) : Int)) = ((A ++ raw W p).length : Int) := by
      rw [wrap64 (x := (A.length : Int) + 1) (by omega) (by omega), wrap64 (by omega) (by omega), List.length_append, hrl]
      push_cast
      omega
    rw [eT] at r4
    generalize A ++ raw W p = A' at r4 eN
    refine Is.of e4154 (((r1.and r2).and (hf.and (Evt.ge (was.length + 1)))).mp4 r3 r4 r5 fun N ⟨⟨q1, q2⟩, q3, q4⟩ q5 q6 q7 => ?_)
    have q3 := q3 N q4
    simp only [show ((0 : Nat) : Int) = 0 from rfl] at q3
    simp (disch := omega) [F4154, q1, q2, q3, q5, geT, ltT, hl, hn1, q6, q7, leNT, l1, l2, eN]
    omega
end
def blkM (W : List Int) (b : Nat) (was : List Nat) (p : Nat) : List Int := gw W p :: (kids W p).map (mv W b was)
def rawF (W : List Int) (l : List Nat) : List Int := l.flatMap (raw W)
def blkF (W : List Int) (b : Nat) (was l : List Nat) : List Int := l.flatMap (blkM W b was)
theorem blkM_len (W : List Int) (b : Nat) (was : List Nat) (p : Nat) : (blkM W b was p).length = 1 + mny (gw W p) := by simp [blkM, kids_len]; omega
theorem rawF_len (W : List Int) : ∀ l : List Nat, (rawF W l).length = sumB W l
  | [] => rfl
  | p :: l => by
    have := rawF_len W l
    unfold rawF at this ⊢
    simp only [List.flatMap_cons, List.length_append, raw_len, this, sumB]
theorem blkF_len (W : List Int) (b : Nat) (was : List Nat) : ∀ l : List Nat, (blkF W b was l).length = sumB W l
  | [] => rfl
  | p :: l => by
    have := blkF_len W b was l
    unfold blkF at this ⊢
    simp only [List.flatMap_cons, List.length_append, blkM_len, this, sumB]
theorem rawF_add (W : List Int) (was : List Nat) (x : Int) (l : List Nat) (h : addW was x = was ++ l) : rawF W l = addA W was x := by
  unfold addW at h
  unfold addA
  split at h
  · rename_i hc
    rw [if_pos hc]
    have := List.append_cancel_left h
    subst this
    simp [rawF]
  · rename_i hc
    rw [if_neg hc]
    have : l = [] := by simpa using h.symm
    subst this
    rfl
theorem addW_ext (was : List Nat) (x : Int) : ∃ l, addW was x = was ++ l := by
  unfold addW
  split
  · exact ⟨_, rfl⟩
  · exact ⟨[], by simp⟩
def addAll (was : List Nat) (l : List Int) : List Nat := l.foldl addW was
theorem addAll_ext (l : List Int) : ∀ was : List Nat, ∃ m, addAll was l = was ++ m := by
  induction l with
  | nil => exact fun was => ⟨[], by simp [addAll]⟩
  | cons x l ih =>
    intro was
    obtain ⟨m1, h1⟩ := addW_ext was x
    obtain ⟨m2, h2⟩ := ih (addW was x)
    exact ⟨m1 ++ m2, by show addAll (addW was x) l = _; rw [h2, h1, List.append_assoc]⟩
theorem addAll_way {P was : List Nat} (h : Way P was) : ∀ {l : List Int}, (∀ x, x ∈ l → there P x = true) → Way P (addAll was l) := by
  intro l
  induction l generalizing was with
  | nil => exact fun _ => h
  | cons x l ih => exact fun hl => ih (h.add (hl x (by simp))) fun y hy => hl y (by simp [hy])
theorem inW_all {l : List Int} : ∀ {was : List Nat} {x : Int}, inW was x → inW (addAll was l) x := by
  induction l with
  | nil => exact fun h => h
  | cons y l ih => exact fun h => ih (inW_mono h)
theorem mv_all {W : List Int} {b : Nat} {l : List Int} : ∀ {was : List Nat} {x : Int}, inW was x → mv W b (addAll was l) x = mv W b was x := by
  induction l with
  | nil => exact fun _ => rfl
  | cons y l ih =>
    intro was x h
    show mv W b (addAll (addW was y) l) x = _
    rw [ih (inW_mono h), mv_add h]
theorem addAll_in {l : List Int} : ∀ {was : List Nat} {x : Int}, x ∈ l → inW (addAll was l) x := by
  induction l with
  | nil => intro was x h; simp at h
  | cons y l ih =>
    intro was x h
    rcases List.mem_cons.1 h with rfl | h
    · show inW (addAll (addW was x) l) x
      exact inW_all (inW_add was x)
    · exact ih h
theorem addAll_snoc (was : List Nat) (l : List Int) (x : Int) : addAll was (l ++ [x]) = addW (addAll was l) x := by simp [addAll]
theorem map_mv {W : List Int} {b : Nat} {was : List Nat} {l : List Int} (h : ∀ x, x ∈ l → inW was x) (y : Int) : l.map (mv W b (addW was y)) = l.map (mv W b was) := List.map_congr_left fun x hx => mv_add (h x hx) y
theorem blkF_add {W : List Int} {b : Nat} {was : List Nat} : ∀ {l : List Nat}, (∀ p, p ∈ l → ∀ x, x ∈ kids W p → inW was x) → ∀ y : Int, blkF W b (addW was y) l = blkF W b was l
  | [], _, _ => rfl
  | p :: l, h, y => by
    have := blkF_add (W := W) (b := b) (was := was) (l := l) (fun q hq => h q (by simp [hq])) y
    unfold blkF at this ⊢
    simp only [List.flatMap_cons, this, blkM, map_mv (h p (by simp)) y]
section
variable {W : List Int} {half base next : Int} {P : List Nat}
/-- The roots are moved. -/
theorem rootsLoop (h : SOk W half base next P) {n b : Nat} (hb : (b : Int) + half ≤ n) (hn2 : n ≤ 6000) {R : List Int} (hR : ∀ x, x ∈ R → there P x = true) (hRl : R.length ≤ 1048576) (z : PV) :
    Evt fun N => loopEv (L33_0 (ev Tryz.prog sg N) N) N [.int 0, words R, .list [], stV (heapV W half base next) (List.replicate b 0) n half b [] [], z] =
      some (.x 0, [words (R.map (mv W b (addAll [] R))), stV (heapV W half base next) (List.replicate b 0 ++ rawF W (addAll [] R)) n half b (addAll [] R) (nowL W b (addAll [] R)), z]) := by
  have hl := wordsLen R
  have key : ∀ (todo don : List Int), R = don ++ todo → Evt fun N => ∀ m, todo.length + 1 ≤ m → loopEv (L33_0 (ev Tryz.prog sg N) N) m [.int don.length, words R, words (don.map (mv W b (addAll [] don))), stV (heapV W half base next) (List.replicate b 0 ++ rawF W (addAll [] don)) n half b (addAll [] don) (nowL W b (addAll [] don)), z] =
      some (.x 0, [words (R.map (mv W b (addAll [] R))), stV (heapV W half base next) (List.replicate b 0 ++ rawF W (addAll [] R)) n half b (addAll [] R) (nowL W b (addAll [] R)), z]) := by
    intro todo
    induction todo with
    | nil =>
      intro don hd
      simp only [List.append_nil] at hd
      subst hd
      refine Evt.all fun N m hm => ?_
      obtain ⟨m, rfl⟩ : ∃ m', m = m' + 1 := ⟨m - 1, by omega⟩
      generalize stV (heapV W half base next) (List.replicate b 0 ++ rawF W (addAll [] R)) n half b (addAll [] R) (nowL W b (addAll [] R)) = st
      have hB : L33_0 (ev Tryz.prog sg N) N [.int R.length, words R, words (R.map (mv W b (addAll [] R))), st, z] = some (.x 0, [words (R.map (mv W b (addAll [] R))), st, z]) := by
        simp (disch := omega) [L33_0, ltF, hl]
      simp only [loopEv, hB, thenN_x, passE_eq]
    | cons x todo ih =>
      intro don hd
      have hx := hR x (by rw [hd]; simp)
      have hway : Way P (addAll [] don) := addAll_way ⟨List.nodup_nil, by simp⟩ fun y hy => hR y (by rw [hd]; simp [hy])
      have hA : (List.replicate b (0 : Int) ++ rawF W (addAll [] don)).length = b + sumB W (addAll [] don) := by simp [rawF_len]
      have hmv := moveA h hway hb hn2 hA hx
      have hnth : nth (R.map PV.int) don.length = .int x := by
        rw [hd, List.map_append, List.map_cons]
        have := nth_mid (don.map PV.int) (todo.map PV.int) (.int x)
        rwa [List.length_map] at this
      have hdl : don.length < R.length := by rw [hd]; simp
      have ih := ih (don ++ [x]) (by rw [hd]; simp)
      have eA : List.replicate b (0 : Int) ++ rawF W (addAll [] don) ++ addA W (addAll [] don) x = List.replicate b 0 ++ rawF W (addAll [] (don ++ [x])) := by
        obtain ⟨l, hl2⟩ := addW_ext (addAll [] don) x
        rw [addAll_snoc, ← rawF_add W _ x l hl2, hl2]
        simp [rawF]
      rw [eA, ← addAll_snoc] at hmv
      have eO : (don.map (mv W b (addAll [] don))).map PV.int ++ [PV.int (mv W b (addAll [] (don ++ [x])) x)] = ((don ++ [x]).map (mv W b (addAll [] (don ++ [x])))).map PV.int := by
        rw [addAll_snoc, List.map_append, List.map_append, map_mv (fun y hy => addAll_in hy) x]
        rfl
      have hol : ((don.map (mv W b (addAll [] don))).map PV.int).length = don.length := by simp
      refine hmv.mp2 ih fun N q1 q2 m hm => ?_
      obtain ⟨m, rfl⟩ : ∃ m', m = m' + 1 := ⟨m - 1, by omega⟩
      generalize stV (heapV W half base next) (List.replicate b 0 ++ rawF W (addAll [] don)) n half b (addAll [] don) (nowL W b (addAll [] don)) = st0 at q1
      have hB : L33_0 (ev Tryz.prog sg N) N [.int don.length, words R, words (don.map (mv W b (addAll [] don))), st0, z] = some (.n, [.int (don ++ [x]).length, words R, words ((don ++ [x]).map (mv W b (addAll [] (don ++ [x])))), stV (heapV W half base next) (List.replicate b 0 ++ rawF W (addAll [] (don ++ [x]))) n half b (addAll [] (don ++ [x])) (nowL W b (addAll [] (don ++ [x]))), z]) := by
        rw [show words ((don ++ [x]).map (mv W b (addAll [] (don ++ [x])))) = .list ((don.map (mv W b (addAll [] don))).map PV.int ++ [PV.int (mv W b (addAll [] (don ++ [x])) x)]) by rw [eO]]
        generalize stV (heapV W half base next) (List.replicate b 0 ++ rawF W (addAll [] (don ++ [x]))) n half b (addAll [] (don ++ [x])) (nowL W b (addAll [] (don ++ [x]))) = st1 at q1
        generalize don.map (mv W b (addAll [] don)) = O at hol
        simp (disch := omega) [L33_0, ltT, geT, hl, hnth, q1, leNT, hol, wrap64]
      simp only [loopEv, hB, thenN_n]
      exact q2 m (by simp at hm; omega)
  refine ((key R [] (by simp)).and (Evt.ge (R.length + 1))).mp fun N q => ?_
  refine Eq.trans ?_ (q.1 N q.2)
  simp [addAll, rawF, nowL]
  rfl
/-- What lies in a block that is being looked through: l of its kids are moved. -/
def scA (W : List Int) (b : Nat) (was : List Nat) (i : Nat) (p : Nat) (l r : List Int) : List Int :=
  List.replicate b 0 ++ (blkF W b was (was.take i) ++ (gw W p :: (l.map (mv W b was) ++ (r ++ rawF W (was.drop (i + 1))))))
theorem sum_take_drop (W : List Int) (was : List Nat) (i : Nat) : sumB W (was.take i) + sumB W (was.drop i) = sumB W was := by
  rw [← sumB_append, List.take_append_drop]
theorem drop_gp {was : List Nat} {i : Nat} (h : i < was.length) : was.drop i = gp was i :: was.drop (i + 1) := by
  rw [List.drop_eq_getElem_cons h]
  simp [gp, List.getD_eq_getElem?_getD, h]
theorem scA_len {b : Nat} {was : List Nat} {i : Nat} (hi : i < was.length) {l r : List Int} (hk : l ++ r = kids W (gp was i)) : (scA W b was i (gp was i) l r).length = b + sumB W was := by
  have h1 := sum_take_drop W was i
  rw [drop_gp hi] at h1
  simp only [sumB] at h1
  have h2 : l.length + r.length = mny (gw W (gp was i)) := by rw [← kids_len, ← hk, List.length_append]
  simp [scA, blkF_len, rawF_len]
  omega
theorem innerLoop (h : SOk W half base next P) {n b : Nat} (hb : (b : Int) + half ≤ n) (hn2 : n ≤ 6000) (i : Nat) (p : Nat) (hp : p ∈ P) (out z : PV) : ∀ (r l : List Int) (was : List Nat), l ++ r = kids W p → Way P was → i < was.length → gp was i = p → (∀ q, q ∈ was.take i → ∀ x, x ∈ kids W q → inW was x) → (∀ x, x ∈ l → inW was x) →
    Evt fun N => ∀ m, r.length + 1 ≤ m → loopEv (L33_1 (ev Tryz.prog sg N) N) m [.int (l.length + 1 : Nat), .int (b + sumB W (was.take i) : Nat), .int (mny (gw W p)), out, stV (heapV W half base next) (scA W b was i p l r) n half b was (nowL W b was), z] =
      some (.x 4, [.int (b + sumB W (was.take i) : Nat), .int (mny (gw W p)), out, stV (heapV W half base next) (scA W b (addAll was r) i p (kids W p) []) n half b (addAll was r) (nowL W b (addAll was r)), z]) := by
  have hm := mny_lt (gw W p)
  intro r
  induction r with
  | nil =>
    intro l was hk hw hi hg hc hcl
    simp only [List.append_nil] at hk
    subst hk
    have hkl := kids_len W p
    refine Evt.all fun N m hm2 => ?_
    obtain ⟨m, rfl⟩ : ∃ m', m = m' + 1 := ⟨m - 1, by omega⟩
    show loopEv _ (m + 1) _ = some (.x 4, [_, _, out, stV (heapV W half base next) (scA W b was i p (kids W p) []) n half b was (nowL W b was), z])
    generalize stV (heapV W half base next) (scA W b was i p (kids W p) []) n half b was (nowL W b was) = st
    have hB : L33_1 (ev Tryz.prog sg N) N [.int ((kids W p).length + 1 : Nat), .int (b + sumB W (was.take i) : Nat), .int (mny (gw W p)), out, st, z] = some (.x 4, [.int (b + sumB W (was.take i) : Nat), .int (mny (gw W p)), out, st, z]) := by
      simp (disch := omega) [L33_1, leF, hkl]
    simp only [loopEv, hB, thenN_x, passE_eq]
  | cons x r ih =>
    intro l was hk hw hi hg hc hcl
    have hx : there P x = true := h.kid p hp x (by rw [← hk]; simp)
    have hkl : l.length + 1 + r.length = mny (gw W p) := by rw [← kids_len, ← hk]; simp; omega
    have hlen := scA_len (W := W) (b := b) hi (l := l) (r := x :: r) (by rw [hg]; exact hk)
    rw [hg] at hlen
    have hmv := moveA h hw hb hn2 hlen hx
    obtain ⟨nl, hnl⟩ := addW_ext was x
    have hw2 := hw.add hx
    have htk : (addW was x).take i = was.take i := by rw [hnl, List.take_append_of_le_length (by omega)]
    have hgp : gp (addW was x) i = p := by
      rw [hnl, ← hg]
      simp [gp, List.getD_eq_getElem?_getD, List.getElem?_append_left hi]
    have hdr : (addW was x).drop (i + 1) = was.drop (i + 1) ++ nl := by rw [hnl, List.drop_append_of_le_length (by omega)]
    have ih := ih (l ++ [x]) (addW was x) (by rw [← hk]; simp) hw2 (by rw [hnl]; simp; omega) hgp (fun q hq y hy => inW_mono (hc q (by rwa [htk] at hq) y hy)) (fun y hy => by
      rcases List.mem_append.1 hy with hy | hy
      · exact inW_mono (hcl y hy)
      · rw [List.mem_singleton.1 hy]; exact inW_add was x)
    rw [htk] at ih
    -- before and behind
    have eX : scA W b was i p l (x :: r) = (List.replicate b 0 ++ (blkF W b was (was.take i) ++ (gw W p :: l.map (mv W b was)))) ++ x :: (r ++ rawF W (was.drop (i + 1))) := by simp [scA]
    have eY : scA W b (addW was x) i p (l ++ [x]) r = (List.replicate b 0 ++ (blkF W b was (was.take i) ++ (gw W p :: l.map (mv W b was)))) ++ mv W b (addW was x) x :: (r ++ rawF W (was.drop (i + 1)) ++ addA W was x) := by
      unfold scA
      rw [htk, blkF_add (fun q hq => hc q hq) x, List.map_append, map_mv hcl x, hdr, ← rawF_add W was x nl hnl]
      simp [rawF]
    have hXl : (List.replicate b (0 : Int) ++ (blkF W b was (was.take i) ++ (gw W p :: l.map (mv W b was)))).length = b + sumB W (was.take i) + (l.length + 1) := by simp [blkF_len]; omega
    generalize List.replicate b (0 : Int) ++ (blkF W b was (was.take i) ++ (gw W p :: l.map (mv W b was))) = X at eX eY hXl
    have hs1 := sum_sub (W := W) hw.nodup hw.sub
    have hs2 := sum_sub (W := W) hw2.nodup hw2.sub
    have hs := h.sum
    have hlen2 : (scA W b was i p l (x :: r) ++ addA W was x).length = b + sumB W (addW was x) := by
      rw [List.length_append, hlen, ← rawF_add W was x nl hnl, rawF_len, hnl, sumB_append]; omega
    rw [eX] at hlen hmv hlen2
    have hT0l := wordsLen (X ++ x :: (r ++ rawF W (was.drop (i + 1))) ++ List.replicate (n - (X ++ x :: (r ++ rawF W (was.drop (i + 1)))).length) (0 : Int))
    have hT0 : (X ++ x :: (r ++ rawF W (was.drop (i + 1))) ++ List.replicate (n - (X ++ x :: (r ++ rawF W (was.drop (i + 1)))).length) (0 : Int)).length = n := by rw [List.length_append, List.length_replicate]; omega
    have hn0 : nth ((X ++ x :: (r ++ rawF W (was.drop (i + 1))) ++ List.replicate (n - (X ++ x :: (r ++ rawF W (was.drop (i + 1)))).length) (0 : Int)).map PV.int) X.length = .int x := by
      rw [List.append_assoc, List.map_append, List.cons_append, List.map_cons]
      have := nth_mid (X.map PV.int) ((r ++ rawF W (was.drop (i + 1)) ++ List.replicate (n - (X ++ x :: (r ++ rawF W (was.drop (i + 1)))).length) (0 : Int)).map PV.int) (.int x)
      rwa [List.length_map] at this
    have hT1 : (X ++ x :: (r ++ rawF W (was.drop (i + 1))) ++ addA W was x ++ List.replicate (n - (X ++ x :: (r ++ rawF W (was.drop (i + 1))) ++ addA W was x).length) (0 : Int)).length = n := by rw [List.length_append, List.length_replicate]; omega
    have hT1l := wordsLen (X ++ x :: (r ++ rawF W (was.drop (i + 1))) ++ addA W was x ++ List.replicate (n - (X ++ x :: (r ++ rawF W (was.drop (i + 1))) ++ addA W was x).length) (0 : Int))
    have hset : ((X ++ x :: (r ++ rawF W (was.drop (i + 1))) ++ addA W was x ++ List.replicate (n - (X ++ x :: (r ++ rawF W (was.drop (i + 1))) ++ addA W was x).length) (0 : Int)).map PV.int).set X.length (.int (mv W b (addW was x) x)) =
        (scA W b (addW was x) i p (l ++ [x]) r ++ List.replicate (n - (scA W b (addW was x) i p (l ++ [x]) r).length) 0).map PV.int := by
      have e0 : (X ++ x :: (r ++ rawF W (was.drop (i + 1))) ++ addA W was x).length = (scA W b (addW was x) i p (l ++ [x]) r).length := by rw [eY]; simp <;> omega
      rw [e0, eY, List.append_assoc, List.append_assoc, List.map_append, List.cons_append, List.map_cons]
      have := set_mid (X.map PV.int) ((r ++ rawF W (was.drop (i + 1)) ++ (addA W was x ++ List.replicate (n - (X ++ mv W b (addW was x) x :: (r ++ rawF W (was.drop (i + 1)) ++ addA W was x)).length) (0 : Int))).map PV.int) (.int x) (.int (mv W b (addW was x) x))
      rw [List.length_map] at this
      rw [this]
      simp
    have hnx : ((X ++ x :: (r ++ rawF W (was.drop (i + 1))) ++ addA W was x).length : Int) = ((scA W b (addW was x) i p (l ++ [x]) r).length : Int) := by
      rw [eY]; simp <;> omega
    have hXn : X.length < b + sumB W was := by rw [← hlen]; simp <;> omega
    have e1 : IntKind.i64.wrap ((b : Int) + (sumB W (was.take i) : Int) + ((l.length : Int) + 1)) = (X.length : Int) := by rw [wrap64 (by omega) (by omega)]; omega
    rw [eX]
    refine hmv.mp2 ih fun N q1 q2 m hm2 => ?_
    obtain ⟨m, rfl⟩ : ∃ m', m = m' + 1 := ⟨m - 1, by omega⟩
    have hB : L33_1 (ev Tryz.prog sg N) N [.int (l.length + 1 : Nat), .int (b + sumB W (was.take i) : Nat), .int (mny (gw W p)), out, stV (heapV W half base next) (X ++ x :: (r ++ rawF W (was.drop (i + 1)))) n half b was (nowL W b was), z] =
        some (.n, [.int ((l ++ [x]).length + 1 : Nat), .int (b + sumB W (was.take i) : Nat), .int (mny (gw W p)), out, stV (heapV W half base next) (scA W b (addW was x) i p (l ++ [x]) r) n half b (addW was x) (nowL W b (addW was x)), z]) := by
      simp only [stV, toV, heapV, words, hnx] at q1
      simp only [stV, toV, heapV, words]
      rw [← hset]
      generalize X ++ x :: (r ++ rawF W (was.drop (i + 1))) ++ List.replicate (n - (X ++ x :: (r ++ rawF W (was.drop (i + 1)))).length) (0 : Int) = T0 at hT0 hT0l hn0 q1
      generalize X ++ x :: (r ++ rawF W (was.drop (i + 1))) ++ addA W was x ++ List.replicate (n - (X ++ x :: (r ++ rawF W (was.drop (i + 1))) ++ addA W was x).length) (0 : Int) = T1 at hT1 hT1l q1
      generalize (X ++ x :: (r ++ rawF W (was.drop (i + 1)))).length = L0 at q1
      simp (disch := omega) [L33_1, leT, geT, ltT, hT0l, hT1l, e1, hn0, q1, wrap64]
    simp only [loopEv, hB, thenN_n]
    exact q2 m (by simp at hm2; omega)
end
end Go.Proofs.YthmhgnnaihkjaaaGreatDoor.GFnMoved
