/- What functions of the program and of the reference come to, for the law FnExactReach. Each under the conditions that it names. -/
import Derived.Test.YthmhgnnaihkjaaaBFnExactReach
namespace Go.Proofs.Ythmhgnnaihkjaaa.GFnExactReach
open Go Go.Rsc Go.Proofs.Ythmhgnnaihkjaaa
set_option maxRecDepth 100000
set_option linter.unusedVariables false
set_option linter.unusedSimpArgs false
/-! ### Roots -/
def allP (P : List Nat) (R : List Int) : Bool := R.all (there P)
theorem notThereI (P : List Nat) (w : Int) (hs : P.Pairwise (· < ·)) (hP : P.length ≤ 1048576) : Rn 62 [.int w, nats P] [.bool (!there P w)] := by
  refine Is.of e62 ((isIntI w).mp2 (isBlockI P w hs hP) fun n q1 q2 => ?_)
  rw [bad_there]
  cases c1 : (!eqI (w % 2) 0 && okW (w / 2)) <;> cases c2 : (eqI (w % 2) 0 && inP P (w / 2)) <;> rw [c1] at q1 <;> rw [c2] at q2 <;> simp [F62, q1, q2]
theorem drop_gw {R : List Int} {i : Nat} (h : i < R.length) : R.drop i = gw R i :: R.drop (i + 1) := by
  rw [List.drop_eq_getElem_cons h]
  simp [gw, List.getD_eq_getElem?_getD, h]
theorem idxLoop (P : List Nat) (R : List Int) (hs : P.Pairwise (· < ·)) (hP : P.length ≤ 1048576) (hR : R.length ≤ 1048576) : ∀ (j i : Nat), i + j = R.length → ∃ r : Nat, Evt fun n => ∀ m, j + 1 ≤ m → loopEv (L69_0 (ev Try.prog sg n) n) m [.int i, .int R.length, words R, nats P] = if allP P (R.drop i) then some (.x 0, []) else some (.r, [.int r]) := by
  have hl := wordsLen R
  intro j
  induction j with
  | zero =>
    intro i hi
    refine ⟨0, Evt.all fun n m hm => ?_⟩
    obtain ⟨m, rfl⟩ : ∃ m', m = m' + 1 := ⟨m - 1, by omega⟩
    have e : R.drop i = [] := List.drop_eq_nil_iff.2 (by omega)
    simp (disch := omega) [loopEv, L69_0, ltF, e, allP]
  | succ j ih =>
    intro i hi
    have hn := nth_gw (W := R) (i := i) (by omega)
    have hd := drop_gw (R := R) (i := i) (by omega)
    cases hc : there P (gw R i) with
    | true =>
      obtain ⟨r, hr⟩ := ih (i + 1) (by omega)
      refine ⟨r, (notThereI P (gw R i) hs hP).mp2 hr fun n q1 q2 m hm => ?_⟩
      obtain ⟨m, rfl⟩ : ∃ m', m = m' + 1 := ⟨m - 1, by omega⟩
      rw [hc] at q1
      have hB : L69_0 (ev Try.prog sg n) n [.int i, .int R.length, words R, nats P] = some (.n, [.int (i + 1 : Nat), .int R.length, words R, nats P]) := by
        simp (disch := omega) [L69_0, ltT, geT, hl, hn, q1, wrap64]
      simp only [loopEv, hB, thenN_n]
      rw [q2 m (by omega), hd]
      simp [allP, hc]
    | false =>
      refine ⟨i, (notThereI P (gw R i) hs hP).mp fun n q1 m hm => ?_⟩
      obtain ⟨m, rfl⟩ : ∃ m', m = m' + 1 := ⟨m - 1, by omega⟩
      rw [hc] at q1
      have hB : L69_0 (ev Try.prog sg n) n [.int i, .int R.length, words R, nats P] = some (.r, [.int i]) := by
        simp (disch := omega) [L69_0, ltT, geT, hl, hn, q1]
      rw [hd]
      simp [loopEv, hB, allP, hc]
theorem anyI (P : List Nat) (R : List Int) (hs : P.Pairwise (· < ·)) (hP : P.length ≤ 1048576) (hR : R.length ≤ 1048576) : Rn 61 [words R, nats P] [.bool (!allP P R)] := by
  have hl := wordsLen R
  obtain ⟨r, hr⟩ := idxLoop P R hs hP hR R.length 0 (by omega)
  have h1 : Rn 69 [words R, nats P] [.int (if allP P R then -1 else (r : Int))] := by
    refine Is.of e69 (hr.mp2 (Evt.ge (R.length + 1)) fun n q1 q2 => ?_)
    have q1 := q1 n q2
    simp only [List.drop_zero, show ((0 : Nat) : Int) = 0 from rfl] at q1
    cases hc : allP P R <;> rw [hc] at q1 <;> simp at q1 <;> simp [F69, hl, q1]
  refine Is.of e61 (h1.mp fun n q => ?_)
  cases hc : allP P R <;> rw [hc] at q <;> simp at q <;> simp (disch := omega) [F61, q, geT, geF]
theorem range_gw {f : Int → Bool} (R : List Int) : ((List.range R.length).all fun i => f (gw R i)) = R.all f := by
  rw [Bool.eq_iff_iff, List.all_eq_true, List.all_eq_true]
  constructor
  · intro h x hx
    obtain ⟨i, hi, rfl⟩ := List.getElem_of_mem hx
    have := h i (by simpa using hi)
    simpa [gw, List.getD_eq_getElem?_getD, hi] using this
  · intro h i hi
    have hi : i < R.length := by simpa using hi
    exact h _ (by simp [gw, List.getD_eq_getElem?_getD, hi])
def rootsB (W : List Int) (half base next : Int) (R : List Int) : Bool := heapB W half base next && allP (plcs W base next) R
theorem heapB_pre {W : List Int} {half base next : Int} (h : heapB W half base next = true) : (preB W half base next && plcsB W base next) = true ∧ Pre W half base next := by
  simp only [heapB, Bool.and_eq_true] at h
  refine ⟨by simp [h.1, h.2.1], pre_of h.1⟩
theorem rootsI {W : List Int} {half base next : Int} {R : List Int} (hW : W.length ≤ 1048576) (hR : R.length ≤ 1048576) : Rn 32 [heapV W half base next, words R] [.bool (rootsB W half base next R)] := by
  have h1 := heapI (half := half) (base := base) (next := next) hW
  cases hc : heapB W half base next with
  | false =>
    rw [hc] at h1
    exact Is.of e32 (h1.mp fun n q => by simp [F32, q, rootsB, hc])
  | true =>
    have hb := blocksI (half := half) (base := base) (next := next) hW
    rw [hc] at h1
    rw [(heapB_pre hc).1] at hb
    simp only [if_true] at hb
    have hP := plcs_len W base next
    refine Is.of e32 (h1.mp3 hb (anyI (plcs W base next) R (plcs_sorted W base next) (by omega) hR) fun n q1 q2 q3 => ?_)
    simp [F32, q1, q2, q3, rootsB, hc]
theorem wordsOf {q : PV} (h : WfT Try.prog 22 q) (hw : q.wt ≤ 1048576) : ∃ W : List Int, q = words W ∧ W.length ≤ 1048576 ∧ ∀ w, w ∈ W → -9223372036854775808 ≤ w ∧ w < 9223372036854775808 := by
  obtain ⟨l, rfl, hl, he⟩ := wf_slice (e := 3) (by kernel_rfl) h
  obtain ⟨W, rfl⟩ := words_of fun q hq => by
    obtain ⟨x, e, _⟩ := wf_int (k := .i64) (by kernel_rfl) (he q hq)
    exact ⟨x, e⟩
  refine ⟨W, rfl, by simp at hw; omega, fun w hm => ?_⟩
  obtain ⟨x, e, hx⟩ := wf_int (k := .i64) (by kernel_rfl) (he (.int w) (List.mem_map.2 ⟨w, hm, rfl⟩))
  cases e
  exact wf64 hx
/-! ### Blocks that are moved: what lies where -/
def kids (W : List Int) (p : Nat) : List Int := (List.range (mny (gw W p))).map fun k => gw W (p + 1 + k)
def raw (W : List Int) (p : Nat) : List Int := gw W p :: kids W p
def addW (was : List Nat) (x : Int) : List Nat := if x % 2 = 0 ∧ (x / 2).toNat ∉ was then was ++ [(x / 2).toNat] else was
def nowL (W : List Int) : Nat → List Nat → List Nat
  | _, [] => []
  | b, p :: l => b :: nowL W (b + 1 + mny (gw W p)) l
def sumB (W : List Int) : List Nat → Nat
  | [] => 0
  | p :: l => 1 + mny (gw W p) + sumB W l
def ix : List Nat → Nat → Nat
  | [], _ => 0
  | q :: l, p => if q = p then 0 else ix l p + 1
theorem kids_len (W : List Int) (p : Nat) : (kids W p).length = mny (gw W p) := by simp [kids]
theorem raw_len (W : List Int) (p : Nat) : (raw W p).length = 1 + mny (gw W p) := by simp [raw, kids_len]; omega
theorem kids_gw {W : List Int} {p k : Nat} (h : k < mny (gw W p)) : gw (kids W p) k = gw W (p + 1 + k) := by
  show (kids W p).getD k 0 = _
  unfold kids
  rw [List.getD_eq_getElem?_getD, List.getElem?_map, List.getElem?_range h]
  rfl
theorem raw_gw {W : List Int} {p k : Nat} (h : k < 1 + mny (gw W p)) : gw (raw W p) k = gw W (p + k) := by
  cases k with
  | zero => simp [raw, gw]
  | succ k =>
    have := kids_gw (W := W) (p := p) (k := k) (by omega)
    rw [show p + (k + 1) = p + 1 + k by omega, ← this]
    simp [raw, gw]
theorem nowL_len (W : List Int) : ∀ (l : List Nat) (b : Nat), (nowL W b l).length = l.length
  | [], _ => rfl
  | p :: l, b => by simp [nowL, nowL_len W l]
theorem sumB_append (W : List Int) : ∀ (l m : List Nat), sumB W (l ++ m) = sumB W l + sumB W m
  | [], m => by simp [sumB]
  | p :: l, m => by simp only [List.cons_append, sumB, sumB_append W l m]; omega
theorem nowL_snoc (W : List Int) (p : Nat) : ∀ (l : List Nat) (b : Nat), nowL W b (l ++ [p]) = nowL W b l ++ [b + sumB W l]
  | [], b => by simp [nowL, sumB]
  | q :: l, b => by
    simp only [List.cons_append, nowL, nowL_snoc W p l, sumB, List.cons.injEq, true_and]
    congr 2
    omega
theorem gp_snoc_lt {l : List Nat} {x i : Nat} (h : i < l.length) : gp (l ++ [x]) i = gp l i := by
  simp [gp, List.getD_eq_getElem?_getD, List.getElem?_append_left h]
theorem ix_lt : ∀ {l : List Nat} {p : Nat}, p ∈ l → ix l p < l.length ∧ gp l (ix l p) = p ∧ ∀ t, t < ix l p → gp l t ≠ p
  | q :: l, p, h => by
    simp only [ix]
    split
    · rename_i e
      exact ⟨by simp, by simp [gp, e], fun t ht => by omega⟩
    · rename_i e
      have hm : p ∈ l := (List.mem_cons.1 h).resolve_left fun e2 => e e2.symm
      obtain ⟨h1, h2, h3⟩ := ix_lt hm
      refine ⟨by simp; exact h1, by simpa [gp] using h2, fun t ht => ?_⟩
      cases t with
      | zero => simpa [gp] using e
      | succ t => simpa [gp] using h3 t (by omega)
theorem ix_eq : ∀ {l : List Nat} {p i : Nat}, i < l.length → gp l i = p → (∀ t, t < i → gp l t ≠ p) → ix l p = i
  | q :: l, p, 0, _, h, _ => by simp [gp] at h; simp [ix, h]
  | q :: l, p, i + 1, hi, h, h2 => by
    have h0 : q ≠ p := by simpa [gp] using h2 0 (by omega)
    have := ix_eq (l := l) (p := p) (i := i) (by simpa using hi) (by simpa [gp] using h) (fun t ht => by simpa [gp] using h2 (t + 1) (by omega))
    simp [ix, h0, this]
theorem ix_append {l m : List Nat} {p : Nat} (h : p ∈ l) : ix (l ++ m) p = ix l p := by
  obtain ⟨h1, h2, h3⟩ := ix_lt h
  have e : ∀ t, t < l.length → gp (l ++ m) t = gp l t := fun t ht => by simp [gp, List.getD_eq_getElem?_getD, List.getElem?_append_left ht]
  exact ix_eq (by simp; omega) (by rw [e _ h1, h2]) fun t ht => by rw [e t (by omega)]; exact h3 t ht
/-- A word, behind the move. -/
def mv (W : List Int) (b : Nat) (was : List Nat) (x : Int) : Int := if x % 2 = 0 then 2 * (gp (nowL W b was) (ix was (x / 2).toNat) : Int) else x
def inW (was : List Nat) (x : Int) : Prop := x % 2 = 0 → (x / 2).toNat ∈ was
theorem inW_add (was : List Nat) (x : Int) : inW (addW was x) x := by
  intro h
  unfold addW
  split
  · simp
  · rename_i hn
    exact Decidable.byContradiction fun e => hn ⟨h, e⟩
theorem inW_mono {was : List Nat} {x y : Int} (h : inW was x) : inW (addW was y) x := by
  intro he
  unfold addW
  split
  · exact List.mem_append_left _ (h he)
  · exact h he
theorem mv_add {W : List Int} {b : Nat} {was : List Nat} {x : Int} (h : inW was x) (y : Int) : mv W b (addW was y) x = mv W b was x := by
  unfold addW
  split
  · unfold mv
    split
    · rename_i he
      have hm := h he
      obtain ⟨h1, _⟩ := ix_lt hm
      rw [ix_append hm, nowL_snoc, gp_snoc_lt (by rw [nowL_len]; exact h1)]
    · rfl
  · rfl
theorem sum_sub {W : List Int} : ∀ {was P : List Nat}, was.Nodup → (∀ p, p ∈ was → p ∈ P) → sumB W was ≤ sumB W P
  | [], P, _, _ => by simp [sumB]
  | p :: was, P, hn, hs => by
    obtain ⟨P1, P2, rfl⟩ := List.append_of_mem (hs p (by simp))
    have hn2 := List.nodup_cons.1 hn
    have := sum_sub (W := W) (was := was) (P := P1 ++ P2) hn2.2 fun q hq => by
      have h1 := hs q (by simp [hq])
      simp only [List.mem_append, List.mem_cons] at h1 ⊢
      rcases h1 with h1 | rfl | h1
      · exact .inl h1
      · exact absurd hq hn2.1
      · exact .inr h1
    rw [sumB_append] at this ⊢
    simp only [sumB]
    omega
theorem len_sub : ∀ {was P : List Nat}, was.Nodup → (∀ p, p ∈ was → p ∈ P) → was.length ≤ P.length
  | [], P, _, _ => by simp
  | p :: was, P, hn, hs => by
    obtain ⟨P1, P2, rfl⟩ := List.append_of_mem (hs p (by simp))
    have hn2 := List.nodup_cons.1 hn
    have := len_sub (was := was) (P := P1 ++ P2) hn2.2 fun q hq => by
      have h1 := hs q (by simp [hq])
      simp only [List.mem_append, List.mem_cons] at h1 ⊢
      rcases h1 with h1 | rfl | h1
      · exact .inl h1
      · exact absurd hq hn2.1
      · exact .inr h1
    simp at this ⊢
    omega
theorem sum_plc {W : List Int} {next : Nat} : ∀ {k at_ : Nat}, next ≤ at_ + k → at_ ≤ next → (plc W next k at_).1 = true → at_ + sumB W (plc W next k at_).2 = next
  | 0, at_, h1, h2, _ => by simp [plc, sumB]; omega
  | k + 1, at_, h1, h2, h3 => by
    simp only [plc] at h3 ⊢
    split at h3
    · rename_i hlt
      rw [if_pos hlt]
      split at h3
      · rename_i hc
        rw [if_pos hc]
        simp only [Bool.and_eq_true, decide_eq_true_eq] at hc
        have := sum_plc (k := k) (at_ := at_ + 1 + mny (gw W at_)) (by omega) (by omega) h3
        simp only [sumB]
        omega
      · cases h3
    · rename_i hlt
      rw [if_neg hlt]
      simp [sumB]
      omega
/-- The blocks that are come to: was stands for what is there already. -/
structure Way (P was : List Nat) : Prop where
  nodup : was.Nodup
  sub : ∀ p, p ∈ was → p ∈ P
theorem Way.add {P was : List Nat} (h : Way P was) {x : Int} (hx : there P x = true) : Way P (addW was x) := by
  unfold addW
  split
  · rename_i hc
    refine ⟨?_, fun p hp => ?_⟩
    · rw [List.nodup_append]
      refine ⟨h.nodup, by simp, fun a ha b hb => ?_⟩
      simp only [List.mem_singleton] at hb
      subst hb
      exact fun e => hc.2 (e ▸ ha)
    · rcases List.mem_append.1 hp with hp | hp
      · exact h.sub p hp
      · simp only [List.mem_singleton] at hp
        unfold there at hx
        rw [eqT hc.1] at hx
        simp at hx
        obtain ⟨q, hq, e⟩ := inP_iff.1 hx
        rw [hp, show (x / 2).toNat = q by omega]
        exact hq
  · exact h
/-! ### What is come to -/
structure SOk (W : List Int) (half base next : Int) (P : List Nat) : Prop where
  pre : Pre W half base next
  mem : ∀ p, p ∈ P → p + 1 + mny (gw W p) ≤ W.length ∧ okHd (gw W p) = true
  sum : (sumB W P : Int) ≤ half
  kid : ∀ p, p ∈ P → ∀ x, x ∈ kids W p → there P x = true
  plen : P.length ≤ 3000
theorem sok {W : List Int} {half base next : Int} (h : heapB W half base next = true) : SOk W half base next (plcs W base next) := by
  obtain ⟨h1, h2⟩ := heapB_pre h
  have hr := h2.rng
  simp only [Bool.and_eq_true] at h1
  refine ⟨h2, fun p hp => plcs_in h2 hp, ?_, fun p hp x hx => ?_, plcs_len W base next⟩
  · have := sum_plc (W := W) (next := next.toNat) (k := 3000) (at_ := base.toNat) (by omega) (by omega) h1.2
    have := h2.h4
    unfold plcs
    omega
  · simp only [heapB, Bool.and_eq_true] at h
    obtain ⟨i, hi, e⟩ := List.getElem_of_mem hp
    have := List.all_eq_true.1 h.2.2 i (by simpa using hi)
    have e2 : gp (plcs W base next) i = p := by simp [gp, List.getD_eq_getElem?_getD, hi, e]
    rw [e2] at this
    unfold kidB at this
    unfold kids at hx
    obtain ⟨k, hk, rfl⟩ := List.mem_map.1 hx
    exact List.all_eq_true.1 this k hk
theorem addW_ext (was : List Nat) (x : Int) : ∃ l, addW was x = was ++ l := by
  unfold addW
  split
  · exact ⟨_, rfl⟩
  · exact ⟨[], by simp⟩
def addAll (was : List Nat) (l : List Int) : List Nat := l.foldl addW was
theorem addAll_ext (l : List Int) : ∀ was : List Nat, ∃ m, addAll was l = was ++ m := by
  induction l with
  | nil => exact fun was => ⟨[], by simp [addAll]⟩
  | cons x l ih =>
    intro was
    obtain ⟨m1, h1⟩ := addW_ext was x
    obtain ⟨m2, h2⟩ := ih (addW was x)
    exact ⟨m1 ++ m2, by show addAll (addW was x) l = _; rw [h2, h1, List.append_assoc]⟩
theorem addAll_way {P was : List Nat} (h : Way P was) : ∀ {l : List Int}, (∀ x, x ∈ l → there P x = true) → Way P (addAll was l) := by
  intro l
  induction l generalizing was with
  | nil => exact fun _ => h
  | cons x l ih => exact fun hl => ih (h.add (hl x (by simp))) fun y hy => hl y (by simp [hy])
theorem inW_all {l : List Int} : ∀ {was : List Nat} {x : Int}, inW was x → inW (addAll was l) x := by
  induction l with
  | nil => exact fun h => h
  | cons y l ih => exact fun h => ih (inW_mono h)
theorem addAll_in {l : List Int} : ∀ {was : List Nat} {x : Int}, x ∈ l → inW (addAll was l) x := by
  induction l with
  | nil => intro was x h; simp at h
  | cons y l ih =>
    intro was x h
    rcases List.mem_cons.1 h with rfl | h
    · show inW (addAll (addW was x) l) x
      exact inW_all (inW_add was x)
    · exact ih h
theorem addAll_snoc (was : List Nat) (l : List Int) (x : Int) : addAll was (l ++ [x]) = addW (addAll was l) x := by simp [addAll]
def bfs (W : List Int) : Nat → Nat → List Nat → List Nat
  | 0, _, was => was
  | d + 1, i, was => if i < was.length then bfs W d (i + 1) (addAll was (kids W (gp was i))) else was
theorem take_gp {was : List Nat} {i : Nat} (h : i < was.length) : was.take (i + 1) = was.take i ++ [gp was i] := by
  rw [List.take_add_one, List.getElem?_eq_getElem h]
  simp [gp, List.getD_eq_getElem?_getD, h]
theorem drop_gp {was : List Nat} {i : Nat} (h : i < was.length) : was.drop i = gp was i :: was.drop (i + 1) := by
  rw [List.drop_eq_getElem_cons h]
  simp [gp, List.getD_eq_getElem?_getD, h]
/-! ### Blocks that are come to, as the program finds them -/
section
variable {W R : List Int} {half base next : Int}
theorem rightS (hW : W.length ≤ 1048576) (hW2 : ∀ w, w ∈ W → -9223372036854775808 ≤ w ∧ w < 9223372036854775808) (hR : R.length ≤ 1048576) : Rn 29 [heapV W half base next, words R] [.bool (heapB W half base next && allP (plcs W base next) R)] := by
  have hl := wordsLen R
  have r1 := heapS (half := half) (base := base) (next := next) hW fun w hw => (hW2 w hw).2
  cases c1 : heapB W half base next with
  | false =>
    rw [c1] at r1
    exact Is.of e29 (r1.mp fun n q => by simp [F29, q])
  | true =>
  rw [c1] at r1
  have hp := (heapB_pre c1).2
  have r2 := placesS hp fun w hw => (hW2 w hw).2
  have hP := plcs_len W base next
  generalize plcs W base next = P at *
  have h1 := all_loop (body := fun n => L29_0 (ev Try.prog sg n) n) (pay := fun i => [.int i, nats P, words R]) (c := fun i => there P (gw R i)) (e1 := .x 0) (r1 := []) (e2 := .r) (r2 := [.bool false]) R.length (by simp) (by simp) (fun i hi hc => ?_) (fun i hi hc => ?_) (Evt.all fun n => ?_)
  · rw [range_gw] at h1
    refine Is.of e29 (r1.mp3 r2 h1 fun n q1 q2 q3 => ?_)
    unfold allP
    simp only [show ((0 : Nat) : Int) = 0 from rfl] at q3
    cases hc : R.all (there P) <;> rw [hc] at q3 <;> simp at q3 <;> simp [F29, q1, q2, q3]
  · have hn := nth_gw hi
    refine (thereS P (gw R i) (by omega)).mp fun n q => ?_
    rw [hc] at q
    simp (disch := omega) [L29_0, ltT, geT, hl, hn, q, wrap64]
  · have hn := nth_gw hi
    refine (thereS P (gw R i) (by omega)).mp fun n q => ?_
    rw [hc] at q
    simp (disch := omega) [L29_0, ltT, geT, hl, hn, q, wrap64]
  · simp (disch := omega) [L29_0, ltF, hl]
end
def seenL (was : List Nat) : List PV := was.map fun p : Nat => PV.agg [.int (2 * (p : Int)), .bool true]
theorem seen_get {x : Int} (h : x % 2 = 0) (h0 : 0 ≤ x) : ∀ was : List Nat, mgetL (.bool false) x (seenL was) = .bool (decide ((x / 2).toNat ∈ was))
  | [] => rfl
  | p :: was => by
    show (if ((PV.agg [.int (2 * (p : Int)), .bool true]).fld 0).toInt = x then (PV.agg [.int (2 * (p : Int)), .bool true]).fld 1 else mgetL (.bool false) x (seenL was)) = _
    by_cases e : 2 * (p : Int) = x
    · have e2 : (x / 2).toNat = p := by omega
      simp [e, e2]
    · have e2 : ¬ (x / 2).toNat = p := by omega
      rw [if_neg (by simpa using e), seen_get h h0 was]
      simp [e2]
theorem seen_set {x : Int} (h : x % 2 = 0) (h0 : 0 ≤ x) : ∀ was : List Nat, (x / 2).toNat ∉ was → msetL x (.bool true) (seenL was) = seenL (was ++ [(x / 2).toNat])
  | [], _ => by
    have e : 2 * (((x / 2).toNat : Nat) : Int) = x := by omega
    show [PV.agg [.int x, .bool true]] = [PV.agg [.int (2 * (((x / 2).toNat : Nat) : Int)), .bool true]]
    rw [e]
  | p :: was, hn => by
    have e : ¬ 2 * (p : Int) = x := fun e => hn (by rw [show (x / 2).toNat = p by omega]; simp)
    show (if ((PV.agg [.int (2 * (p : Int)), .bool true]).fld 0).toInt = x then _ else PV.agg [.int (2 * (p : Int)), .bool true] :: msetL x (.bool true) (seenL was)) = _
    rw [if_neg (by simpa using e), seen_set h h0 was fun hm => hn (by simp [hm])]
    rfl
theorem there_ev {P : List Nat} {x : Int} (h : there P x = true) (he : x % 2 = 0) : 0 ≤ x ∧ (x / 2).toNat ∈ P := by
  have c : eqI (x % 2) 0 = true := eqT he
  simp only [there, c, Bool.not_true, Bool.false_and, Bool.false_or, Bool.true_and] at h
  obtain ⟨p, hp, e⟩ := inP_iff.1 h
  exact ⟨by omega, by rw [show (x / 2).toNat = p by omega]; exact hp⟩
theorem kidsW {W : List Int} {p : Nat} (h : p + 1 + mny (gw W p) ≤ W.length) : ((W.map PV.int).drop (p + 1)).take (mny (gw W p)) = (kids W p).map PV.int := by
  apply List.ext_getElem
  · simp [kids_len]; omega
  · intro i h1 h2
    have hi : i < mny (gw W p) := by simp [kids_len] at h2; exact h2
    simp only [List.getElem_take, List.getElem_drop, List.getElem_map]
    have := kids_gw (W := W) (p := p) (k := i) hi
    simp only [gw, List.getD_eq_getElem?_getD] at this
    rw [List.getElem?_eq_getElem (by rw [kids_len]; exact hi), List.getElem?_eq_getElem (by omega)] at this
    simpa using this.symm
theorem meetI {P : List Nat} (hP : P.length ≤ 3000) {was : List Nat} (hw : Way P was) {l : List Int} (hl : ∀ x, x ∈ l → there P x = true) (hll : l.length ≤ 1048576) :
    Rn 65 [words l, .list (seenL was), nats was] [.list (seenL (addAll was l)), nats (addAll was l)] := by
  have hlen := wordsLen l
  have h1 := loop_run (body := fun n => L65_0 (ev Try.prog sg n) n) (fun k => [.int k, .int l.length, words l, .list (seenL (addAll was (l.take k))), nats (addAll was (l.take k))]) l.length (e := .x 0) (res := [.list (seenL (addAll was l)), nats (addAll was l)]) (fun k hk => ?_) (Evt.all fun n => ?_) (by decide)
  · refine Is.of e65 (h1.mp fun n q => ?_)
    have q' : loopEv (L65_0 (ev Try.prog sg n) n) n [.int 0, .int l.length, words l, .list (seenL was), nats was] = some (.x 0, [.list (seenL (addAll was l)), nats (addAll was l)]) := q
    simp [F65, hlen, q']
  · have hn := nth_gw hk
    have hx : there P (gw l k) = true := hl _ (by simp [gw, List.getD_eq_getElem?_getD, hk])
    have e1 : l.take (k + 1) = l.take k ++ [gw l k] := by
      rw [List.take_add_one, List.getElem?_eq_getElem hk]
      simp [gw, List.getD_eq_getElem?_getD, hk]
    rw [e1, addAll_snoc]
    have hway : Way P (addAll was (l.take k)) := addAll_way hw fun x hx => hl x (List.mem_of_mem_take hx)
    have hwl := len_sub hway.nodup hway.sub
    generalize addAll was (l.take k) = was1 at hway hwl
    generalize gw l k = x at hn hx
    have c1 : ltI (k : Int) l.length = true := ltT (by omega)
    have c2 : geI (k : Int) 0 = true := geT (by omega)
    have w1 : IntKind.i64.wrap ((k : Int) + 1) = ((k + 1 : Nat) : Int) := by rw [wrap64 (by omega) (by omega)]; omega
    have hk' : ((k : Int)).toNat = k := by omega
    by_cases he : x % 2 = 0
    · obtain ⟨x0, xP⟩ := there_ev hx he
      have hg := seen_get he x0 was1
      by_cases hm : (x / 2).toNat ∈ was1
      · have e2 : addW was1 x = was1 := by simp [addW, hm]
        rw [e2]
        refine (refI x).mp fun n q => ?_
        rw [eqT he] at q
        simp [L65_0, hlen, c1, c2, hk', hn, q, hg, hm, w1]
      · have e2 : addW was1 x = was1 ++ [(x / 2).toNat] := by simp [addW, hm, he]
        rw [e2]
        have hs := seen_set he x0 was1 hm
        have e3 : (was1.map fun p : Nat => PV.int (p : Int)) ++ [PV.int (x / 2)] = (was1 ++ [(x / 2).toNat]).map fun p : Nat => PV.int (p : Int) := by
          rw [← natsSnoc, show (((x / 2).toNat : Nat) : Int) = x / 2 by omega]
        have c3 : leN ((was1.map fun p : Nat => PV.int (p : Int)).length + [PV.int (x / 2)].length) 17592186044416 = true := leNT (by simp; omega)
        refine (refI x).mp2 (wrefI x) fun n q q2 => ?_
        rw [eqT he] at q
        have hgf : (mgetL (.bool false) x (seenL was1)).toBool = false := by rw [hg]; simp [hm]
        simp only [L65_0, nth_0, nth_1, nth_2, nth_3, nth_4, toInt_int, toList_list, toBool_bool, hlen, c1, iff_true', c2, hk', hn, q, q2, Option.bind_some, isB_bool, selB_true, beq_self_eq_true, hgf, Bool.not_false, c3, hs, e3, thenN_n, w1]
    · have e2 : addW was1 x = was1 := by simp [addW, he]
      rw [e2]
      refine (refI x).mp fun n q => ?_
      rw [eqF he] at q
      simp [L65_0, hlen, c1, c2, hk', hn, q, w1]
  · have c1 : ltI (l.length : Int) l.length = false := ltF (by omega)
    simp [L65_0, c1]
section
variable {W R : List Int} {half base next : Int} {P : List Nat}
theorem kidsAtI (h : SOk W half base next P) (hW : W.length ≤ 1048576) {p : Nat} (hp : p ∈ P) : Rn 36 [heapV W half base next, .int p] [words (kids W p)] := by
  have h1 := (h.mem p hp).1
  have := kidsI (half := half) (base := base) (next := next) h1 hW
  rwa [kidsW h1] at this
theorem metLoop (h : SOk W half base next P) (hW : W.length ≤ 1048576) : ∀ (d i : Nat) (was : List Nat), P.length ≤ i + d → Way P was → i ≤ was.length →
    Evt fun n => ∀ m, d + 1 ≤ m → loopEv (L35_0 (ev Try.prog sg n) n) m [.int i, heapV W half base next, .list (seenL was), nats was] = some (.x 0, [nats (bfs W d i was)]) := by
  have hpl := h.plen
  have stop : ∀ (i : Nat) (was : List Nat), i = was.length → Evt fun n => ∀ m, 1 ≤ m → loopEv (L35_0 (ev Try.prog sg n) n) m [.int i, heapV W half base next, .list (seenL was), nats was] = some (.x 0, [nats was]) := by
    intro i was hi
    refine Evt.all fun n m hm => ?_
    obtain ⟨m, rfl⟩ : ∃ m', m = m' + 1 := ⟨m - 1, by omega⟩
    have hnl := natsLen was
    have hB : L35_0 (ev Try.prog sg n) n [.int i, heapV W half base next, .list (seenL was), nats was] = some (.x 0, [nats was]) := by
      have c1 : ltI (i : Int) was.length = false := ltF (by omega)
      simp [L35_0, hnl, c1]
    simp only [loopEv, hB, thenN_x, passE_eq]
  intro d
  induction d with
  | zero =>
    intro i was hd hw hi
    have := len_sub hw.nodup hw.sub
    exact (stop i was (by omega)).mp fun n q m hm => q m (by omega)
  | succ d ih =>
    intro i was hd hw hi
    simp only [bfs]
    by_cases hlt : i < was.length
    · rw [if_pos hlt]
      have hpm : gp was i ∈ P := hw.sub _ (gp_mem hlt)
      have hway : Way P (addAll was (kids W (gp was i))) := addAll_way hw (h.kid _ hpm)
      have hgrow : was.length ≤ (addAll was (kids W (gp was i))).length := by
        obtain ⟨m, e⟩ := addAll_ext (kids W (gp was i)) was
        rw [e]; simp
      have hkl := kids_len W (gp was i)
      have hml := mny_lt (gw W (gp was i))
      have h2 := ih (i + 1) (addAll was (kids W (gp was i))) (by omega) hway (by omega)
      have h3 := kidsAtI h hW hpm
      have h4 := meetI hpl hw (h.kid _ hpm) (by omega)
      have hnl := natsLen was
      have hn := nth_gp hlt
      have hwl := len_sub hw.nodup hw.sub
      refine (Evt.and h3 h4).mp2 h2 fun n q1 q2 m hm => ?_
      obtain ⟨m, rfl⟩ : ∃ m', m = m' + 1 := ⟨m - 1, by omega⟩
      have hB : L35_0 (ev Try.prog sg n) n [.int i, heapV W half base next, .list (seenL was), nats was] = some (.n, [.int (i + 1 : Nat), heapV W half base next, .list (seenL (addAll was (kids W (gp was i)))), nats (addAll was (kids W (gp was i)))]) := by
        have c1 : ltI (i : Int) was.length = true := ltT (by omega)
        have c2 : geI (i : Int) 0 = true := geT (by omega)
        have w1 : IntKind.i64.wrap ((i : Int) + 1) = ((i + 1 : Nat) : Int) := by rw [wrap64 (by omega) (by omega)]; omega
        have hk' : ((i : Int)).toNat = i := by omega
        simp only [L35_0, nth_0, nth_1, nth_2, nth_3, toInt_int, toList_list, hnl, c1, iff_true', c2, hk', hn, q1.1, Option.bind_some, q1.2, w1]
      simp only [loopEv, hB, thenN_n]
      exact q2 m (by omega)
    · rw [if_neg hlt]
      exact (stop i was (by omega)).mp fun n q m hm => q m (by omega)
theorem metI (h : SOk W half base next P) (hW : W.length ≤ 1048576) (hR : ∀ x, x ∈ R → there P x = true) (hRl : R.length ≤ 1048576) : Rn 35 [heapV W half base next, words R] [nats (bfs W P.length 0 (addAll [] R))] := by
  have hpl := h.plen
  have hw0 : Way P [] := ⟨List.nodup_nil, by simp⟩
  have h1 := meetI hpl hw0 hR hRl
  have h2 := metLoop h hW P.length 0 (addAll [] R) (by omega) (addAll_way hw0 hR) (by omega)
  refine Is.of e35 (h1.mp3 h2 (Evt.ge 4000) fun n q1 q2 q3 => ?_)
  have q2' : loopEv (L35_0 (ev Try.prog sg n) n) n [.int 0, heapV W half base next, .list (seenL (addAll [] R)), nats (addAll [] R)] = some (.x 0, [nats (bfs W P.length 0 (addAll [] R))]) := q2 n (by omega)
  have q1' : ev Try.prog sg n 65 [words R, .list [], .list []] = some [.list (seenL (addAll [] R)), nats (addAll [] R)] := q1
  simp only [F35, nth_0, nth_1, q1', Option.bind_some, q2', thenE_some, passB_same, thenN_n]
end
end Go.Proofs.Ythmhgnnaihkjaaa.GFnExactReach
