/- What functions of the program and of the reference come to, for the law FnExactOutcome. Each under the conditions that it names. -/
import Derived.Test.YtijgokehlicmnaaBFnExactOutcome
namespace Go.Proofs.Ytijgokehlicmnaa.GFnExactOutcome
open Go Go.Rsc Go.Proofs.Ytijgokehlicmnaa
set_option maxRecDepth 100000
set_option linter.unusedVariables false
set_option linter.unusedSimpArgs false
theorem drop_gw {R : List Int} {i : Nat} (h : i < R.length) : R.drop i = gw R i :: R.drop (i + 1) := by
  rw [List.drop_eq_getElem_cons h]
  simp [gw, List.getD_eq_getElem?_getD, h]
theorem heapB_pre {W : List Int} {half base next : Int} (h : heapB W half base next = true) : (preB W half base next && plcsB W base next) = true ∧ Pre W half base next := by
  simp only [heapB, Bool.and_eq_true] at h
  refine ⟨by simp [h.1, h.2.1], pre_of h.1⟩
/-! ### Words of a heap as values -/
abbrev vV (k n : Int) (kids : List PV) : PV := .agg [.int k, .int n, .list kids]
def bk (W : List Int) (P : List Nat) : Nat → Int → Option PV
  | 0, _ => none
  | d + 1, w => if there P w = false then none else if w % 2 ≠ 0 then some (vV 1 (w / 2) []) else
    if gw W (w / 2).toNat / 2 % 2 = 1 then some (vV 4 0 []) else
    if gw W (w / 2).toNat / 2 / 128 = 0 ∧ mny (gw W (w / 2).toNat) = 0 then some (vV 2 0 []) else
    if gw W (w / 2).toNat / 2 / 128 ≠ 1 ∨ mny (gw W (w / 2).toNat) ≠ 2 then none else
    match bk W P d (gw W ((w / 2).toNat + 1)), bk W P d (gw W ((w / 2).toNat + 2)) with
    | some a, some b => some (vV 3 0 [a, b])
    | _, _ => none
def outB : Option PV → List PV
  | some v => [v, .bool true]
  | none => [vV 0 0 [], .bool false]
section
variable {W : List Int} {half base next : Int}
structure HOk (W : List Int) (half base next : Int) (P : List Nat) : Prop where
  pre : Pre W half base next
  len : W.length ≤ 1048576
  big : ∀ w, w ∈ W → -9223372036854775808 ≤ w ∧ w < 9223372036854775808
  blk : Rn 106 [heapV W half base next] [nats P, .bool true]
  sorted : P.Pairwise (· < ·)
  plen : P.length ≤ 3000
  mem : ∀ p, p ∈ P → p + 1 + mny (gw W p) ≤ W.length ∧ okHd (gw W p) = true
theorem hok (hW : W.length ≤ 1048576) (hW2 : ∀ w, w ∈ W → -9223372036854775808 ≤ w ∧ w < 9223372036854775808) (h : heapB W half base next = true) : HOk W half base next (plcs W base next) := by
  obtain ⟨h1, h2⟩ := heapB_pre h
  have hb := blocksI (half := half) (base := base) (next := next) hW
  rw [h1] at hb
  exact ⟨h2, hW, hW2, by simpa using hb, plcs_sorted W base next, plcs_len W base next, fun p hp => plcs_in h2 hp⟩
theorem copyI {l : List PV} (hl : l.length ≤ 1048576) : Rn 90 [.list l] [.list l] :=
  Is.of e90 (Evt.all fun n => by simp (disch := omega) [F90, leNT])
theorem atI {P : List Nat} (h : HOk W half base next P) (p : Int) : Rn 112 [heapV W half base next, .int p] (if inP P p then [.bool (eqI (gw W p.toNat / 2 % 2) 1), .int (gw W p.toNat / 2 / 128), .list (((W.map PV.int).drop (p.toNat + 1)).take (mny (gw W p.toNat))), .bool true] else [.bool false, .int 0, .list [], .bool false]) := by
  obtain ⟨r, hr⟩ := bsI P p h.sorted (by have := h.plen; omega)
  cases hc : inP P p with
  | false =>
    rw [hc] at hr
    refine Is.of e112 (h.blk.mp2 hr fun n q1 q2 => ?_)
    simp [F112, q1, q2]
  | true =>
    rw [hc] at hr
    obtain ⟨q, hq, rfl⟩ := inP_iff.1 hc
    have hm := h.mem q hq
    have hl := h.len
    have hn := nth_gw (W := W) (i := q) (by omega)
    have hkl := kidsLen (W := W) (a := q + 1) (b := mny (gw W q)) hm.1
    refine Is.of e112 ((h.blk.and hr).mp4 (hdrI (gw W q)) (kidsI (half := half) (base := base) (next := next) hm.1 hl) (copyI (l := ((W.map PV.int).drop (q + 1)).take (mny (gw W q))) (by have := mny_lt (gw W q); omega)) fun n q1 q2 q3 q4 => ?_)
    simp (disch := omega) [F112, q1, q2, q3, q4, geT, ltT, hn]
theorem two_kids {p : Nat} (h : p + 1 + 2 ≤ W.length) : ((W.map PV.int).drop (p + 1)).take 2 = [.int (gw W (p + 1)), .int (gw W (p + 2))] := by
  have e1 : W.drop (p + 1) = gw W (p + 1) :: gw W (p + 2) :: W.drop (p + 3) := by
    rw [drop_gw (R := W) (i := p + 1) (by omega), drop_gw (R := W) (i := p + 2) (by omega)]
  rw [← List.map_drop, e1]
  rfl
theorem isInt_there {P : List Nat} {w : Int} (h : (!eqI (w % 2) 0 && okW (w / 2)) = true) : there P w = true ∧ w % 2 ≠ 0 := by
  constructor
  · unfold there; rw [h]; rfl
  · intro e
    rw [eqT e] at h
    simp at h
set_option maxHeartbeats 1000000 in
theorem backI {P : List Nat} (h : HOk W half base next P) : ∀ (d : Nat) (w : Int), d ≤ 1000 → Rn 81 [heapV W half base next, .int w, .int d] (outB (bk W P d w)) := by
  intro d
  induction d with
  | zero => intro w _; exact Is.of e81 (Evt.all fun n => by simp [F81, eqT, bk, outB])
  | succ d ih =>
    intro w hd
    have w1 : IntKind.i64.wrap ((d : Int) + 1 - 1) = d := by rw [wrap64 (by omega) (by omega)]; omega
    have r1 := isIntI w
    have r2 := refI w
    cases c1 : (!eqI (w % 2) 0 && okW (w / 2)) with
    | true =>
      obtain ⟨t1, t2⟩ := isInt_there (P := P) c1
      rw [c1] at r1
      refine Is.of e81 (r1.mp2 (wintI w) fun n q1 q2 => ?_)
      simp (disch := omega) [F81, eqF, q1, q2, bk, t1, t2, outB]
    | false =>
    rw [c1] at r1
    by_cases e0 : w % 2 = 0
    rotate_left
    · have t : there P w = false := by unfold there; rw [c1, eqF e0]; rfl
      rw [eqF e0] at r2
      refine Is.of e81 (r1.mp2 r2 fun n q1 q2 => ?_)
      simp (disch := omega) [F81, eqF, q1, q2, bk, t, outB]
    rw [eqT e0] at r2
    have t : there P w = inP P (w / 2) := by unfold there; rw [c1, eqT e0]; simp
    have r4 := atI h (w / 2)
    cases c2 : inP P (w / 2) with
    | false =>
      rw [c2] at r4 t
      refine Is.of e81 (r1.mp4 r2 (wrefI w) r4 fun n q1 q2 q3 q4 => ?_)
      simp at q4
      simp (disch := omega) [F81, eqF, q1, q2, q3, q4, bk, t, outB]
    | true =>
    rw [c2] at r4 t
    obtain ⟨p, hp, hpe⟩ := inP_iff.1 c2
    have hm := h.mem p hp
    have hl := h.len
    have hpn : (w / 2).toNat = p := by omega
    rw [hpn] at r4
    simp only [if_true] at r4
    have hkl := kidsLen (W := W) (a := p + 1) (b := mny (gw W p)) hm.1
    by_cases c3 : gw W p / 2 % 2 = 1
    · rw [eqT c3] at r4
      refine Is.of e81 (r1.mp4 r2 (wrefI w) r4 fun n q1 q2 q3 q4 => ?_)
      simp (disch := omega) [F81, eqF, q1, q2, q3, q4, bk, t, outB, e0, hpn, c3]
    rw [eqF c3] at r4
    by_cases c4 : gw W p / 2 / 128 = 0 ∧ mny (gw W p) = 0
    · obtain ⟨c40, c41⟩ := c4
      refine Is.of e81 (r1.mp4 r2 (wrefI w) r4 fun n q1 q2 q3 q4 => ?_)
      simp (disch := omega) [F81, eqF, eqT, q1, q2, q3, q4, bk, t, outB, e0, hpn, c3, c40, c41]
    by_cases c5 : gw W p / 2 / 128 ≠ 1 ∨ mny (gw W p) ≠ 2
    · refine Is.of e81 (r1.mp4 r2 (wrefI w) r4 fun n q1 q2 q3 q4 => ?_)
      have hB : bk W P (d + 1) w = none := by simp [bk, t, e0, hpn, c3, c4, c5]
      rw [hB]
      by_cases c6 : gw W p / 2 / 128 = 0
      · have c7 : ¬ mny (gw W p) = 0 := fun e => c4 ⟨c6, e⟩
        simp (disch := omega) [F81, eqF, eqT, neT, q1, q2, q3, q4, outB, hkl, c6]
      · by_cases c8 : gw W p / 2 / 128 = 1
        · have c9 : mny (gw W p) ≠ 2 := c5.resolve_left fun x => x c8
          simp (disch := omega) [F81, eqF, neF, neT, q1, q2, q3, q4, outB, hkl, c8]
        · simp (disch := omega) [F81, eqF, neT, q1, q2, q3, q4, outB, hkl]
    have c50 : gw W p / 2 / 128 = 1 := Decidable.byContradiction fun e => c5 (.inl e)
    have c51 : mny (gw W p) = 2 := Decidable.byContradiction fun e => c5 (.inr e)
    have hm1 := hm.1
    rw [c51] at r4 hm1
    rw [two_kids hm1, c50] at r4
    have hB : bk W P (d + 1) w = match bk W P d (gw W (p + 1)), bk W P d (gw W (p + 2)) with
      | some a, some b => some (vV 3 0 [a, b])
      | _, _ => none := by
      simp [bk, t, e0, hpn, c3, c50, c51]
    rw [hB]
    have ha := ih (gw W (p + 1)) (by omega)
    have hb := ih (gw W (p + 2)) (by omega)
    have hF : ∀ n, ev Try.prog sg n 107 [.int w] = some [.bool false] → ev Try.prog sg n 94 [.int w] = some [.bool true] → ev Try.prog sg n 96 [.int w] = some [.int (w / 2)] → ev Try.prog sg n 112 [heapV W half base next, .int (w / 2)] = some [.bool false, .int 1, .list [.int (gw W (p + 1)), .int (gw W (p + 2))], .bool true] →
        F81 (ev Try.prog sg n) n [heapV W half base next, .int w, .int (d + 1 : Nat)] = (thenN (thenE (loopEv (L81_0 (ev Try.prog sg n) n) n [.int 0, .int 2, .int (d + 1 : Nat), .list [.int (gw W (p + 1)), .int (gw W (p + 2))], heapV W half base next, vV 3 0 [], vV 0 0 []])
          (passB 1)) (fun p7 => (some [(nth p7 0), (PV.bool true)])) (retE fun q8 => [(nth q8 1), (nth q8 0)])) := fun n q1 q2 q3 q4 => by
      simp (disch := omega) [F81, eqF, neF, q1, q2, q3, q4]
    refine Is.of e81 (((r1.and r2).and ((wrefI w).and r4)).mp4 ha hb (Evt.ge 4) fun n ⟨⟨q1, q2⟩, q3, q4⟩ q5 q6 q7 => ?_)
    rw [hF n q1 q2 q3 q4]
    obtain ⟨m, rfl⟩ : ∃ m, n = m + 3 := ⟨n - 3, by omega⟩
    cases h1 : bk W P d (gw W (p + 1)) with
    | none =>
      rw [h1] at q5
      simp only [outB] at q5
      have hB0 : L81_0 (ev Try.prog sg (m + 3)) (m + 3) [.int 0, .int 2, .int (d + 1 : Nat), .list [.int (gw W (p + 1)), .int (gw W (p + 2))], heapV W half base next, vV 3 0 [], vV 0 0 []] = some (.r, [.bool false, vV 0 0 []]) := by
        simp (disch := omega) [L81_0, ltT, geT, wrap64, q5]
      simp only [loopEv, hB0, thenN_n, thenN_r, thenN_x, thenE_some, passE_eq, passB_r, passB_same, retE_r, nth_0, nth_1, outB]
    | some a =>
      rw [h1] at q5
      simp only [outB] at q5
      have hB0 : L81_0 (ev Try.prog sg (m + 3)) (m + 3) [.int 0, .int 2, .int (d + 1 : Nat), .list [.int (gw W (p + 1)), .int (gw W (p + 2))], heapV W half base next, vV 3 0 [], vV 0 0 []] = some (.n, [.int 1, .int 2, .int (d + 1 : Nat), .list [.int (gw W (p + 1)), .int (gw W (p + 2))], heapV W half base next, vV 3 0 [a], vV 0 0 []]) := by
        simp (disch := omega) [L81_0, ltT, geT, q5, leNT, wrap64]
      cases h2 : bk W P d (gw W (p + 2)) with
      | none =>
        rw [h2] at q6
        simp only [outB] at q6
        have hB1 : L81_0 (ev Try.prog sg (m + 3)) (m + 3) [.int 1, .int 2, .int (d + 1 : Nat), .list [.int (gw W (p + 1)), .int (gw W (p + 2))], heapV W half base next, vV 3 0 [a], vV 0 0 []] = some (.r, [.bool false, vV 0 0 []]) := by
          simp (disch := omega) [L81_0, ltT, geT, wrap64, q6]
        simp only [loopEv, hB0, hB1, thenN_n, thenN_r, thenN_x, thenE_some, passE_eq, passB_r, passB_same, retE_r, nth_0, nth_1, outB]
      | some b =>
        rw [h2] at q6
        simp only [outB] at q6
        have hB1 : L81_0 (ev Try.prog sg (m + 3)) (m + 3) [.int 1, .int 2, .int (d + 1 : Nat), .list [.int (gw W (p + 1)), .int (gw W (p + 2))], heapV W half base next, vV 3 0 [a], vV 0 0 []] = some (.n, [.int 2, .int 2, .int (d + 1 : Nat), .list [.int (gw W (p + 1)), .int (gw W (p + 2))], heapV W half base next, vV 3 0 [a, b], vV 0 0 []]) := by
          simp (disch := omega) [L81_0, ltT, geT, q6, leNT, wrap64]
        have hB2 : L81_0 (ev Try.prog sg (m + 3)) (m + 3) [.int 2, .int 2, .int (d + 1 : Nat), .list [.int (gw W (p + 1)), .int (gw W (p + 2))], heapV W half base next, vV 3 0 [a, b], vV 0 0 []] = some (.x 1, [vV 3 0 [a, b], vV 0 0 []]) := by
          simp (disch := omega) [L81_0, ltF]
        simp only [loopEv, hB0, hB1, hB2, thenN_n, thenN_r, thenN_x, thenE_some, passE_eq, passB_r, passB_same, retE_r, nth_0, nth_1, outB]
set_option maxHeartbeats 1000000 in
theorem backS {P : List Nat} (h : HOk W half base next P) : ∀ (d : Nat) (w : Int), d ≤ 1000 → Rn 80 [heapV W half base next, nats P, .int w, .int d] (outB (bk W P d w)) := by
  have hPl := h.plen
  intro d
  induction d with
  | zero => intro w _; exact Is.of e80 (Evt.all fun n => by simp [F80, eqT, bk, outB])
  | succ d ih =>
    intro w hd
    have w1 : IntKind.i64.wrap ((d : Int) + 1 - 1) = d := by rw [wrap64 (by omega) (by omega)]; omega
    have r1 := thereS P w (by omega)
    have r2 := refS w
    cases c1 : there P w with
    | false =>
      rw [c1] at r1
      refine Is.of e80 (r1.mp fun n q1 => ?_)
      simp (disch := omega) [F80, eqF, q1, bk, c1, outB]
    | true =>
    rw [c1] at r1
    by_cases e0 : w % 2 = 0
    rotate_left
    · rw [eqF e0] at r2
      refine Is.of e80 (r1.mp3 r2 (wintS w) fun n q1 q2 q3 => ?_)
      simp (disch := omega) [F80, eqF, q1, q2, q3, bk, c1, e0, outB]
    rw [eqT e0] at r2
    have t : inP P (w / 2) = true := by
      unfold there at c1
      rw [eqT e0] at c1
      simpa using c1
    obtain ⟨p, hp, hpe⟩ := inP_iff.1 t
    have hm := h.mem p hp
    have hl := h.len
    have hpn : (w / 2).toNat = p := by omega
    have hn := nth_gw (W := W) (i := p) (by omega)
    obtain ⟨o1, o2, o3, o4⟩ := okHd_out hm.2
    have hbig := h.big (gw W p) (by unfold gw; simp [List.getD_eq_getElem?_getD, show p < W.length by omega])
    have ht := tagS_eq (w := gw W p) (by omega) hbig.2
    have r4 := ofS (gw W p)
    rw [ht] at r4
    have hw0 : 0 ≤ w / 2 ∧ w / 2 < W.length := by omega
    by_cases c3 : gw W p / 2 % 2 = 1
    · rw [eqT c3] at r4
      refine Is.of e80 (r1.mp4 r2 (wrefS w) r4 fun n q1 q2 q3 q4 => ?_)
      simp (disch := omega) [F80, eqF, geT, ltT, q1, q2, q3, q4, bk, c1, outB, e0, hpn, hn, c3]
    rw [eqF c3] at r4
    by_cases c4 : gw W p / 2 / 128 = 0 ∧ mny (gw W p) = 0
    · obtain ⟨c40, c41⟩ := c4
      refine Is.of e80 (r1.mp4 r2 (wrefS w) r4 fun n q1 q2 q3 q4 => ?_)
      simp (disch := omega) [F80, eqF, eqT, geT, ltT, q1, q2, q3, q4, bk, c1, outB, e0, hpn, hn, c3, c40, c41]
    by_cases c5 : gw W p / 2 / 128 ≠ 1 ∨ mny (gw W p) ≠ 2
    · refine Is.of e80 (r1.mp4 r2 (wrefS w) r4 fun n q1 q2 q3 q4 => ?_)
      have hB : bk W P (d + 1) w = none := by simp [bk, c1, e0, hpn, c3, c4, c5]
      rw [hB]
      by_cases c6 : gw W p / 2 / 128 = 0
      · have c7 : ¬ mny (gw W p) = 0 := fun e => c4 ⟨c6, e⟩
        simp (disch := omega) [F80, eqF, eqT, neT, geT, ltT, q1, q2, q3, q4, outB, hpn, hn, c6]
      · by_cases c8 : gw W p / 2 / 128 = 1
        · have c9 : mny (gw W p) ≠ 2 := c5.resolve_left fun x => x c8
          simp (disch := omega) [F80, eqF, neF, neT, geT, ltT, q1, q2, q3, q4, outB, hpn, hn, c8]
        · simp (disch := omega) [F80, eqF, neT, geT, ltT, q1, q2, q3, q4, outB, hpn, hn]
    have c50 : gw W p / 2 / 128 = 1 := Decidable.byContradiction fun e => c5 (.inl e)
    have c51 : mny (gw W p) = 2 := Decidable.byContradiction fun e => c5 (.inr e)
    have hm1 := hm.1
    rw [c51] at r4 hm1
    rw [c50] at r4
    have hB : bk W P (d + 1) w = match bk W P d (gw W (p + 1)), bk W P d (gw W (p + 2)) with
      | some a, some b => some (vV 3 0 [a, b])
      | _, _ => none := by
      simp [bk, c1, e0, hpn, c3, c50, c51]
    rw [hB]
    have ha := ih (gw W (p + 1)) (by omega)
    have hb := ih (gw W (p + 2)) (by omega)
    have hn1 := nth_gw (W := W) (i := p + 1) (by omega)
    have hn2 := nth_gw (W := W) (i := p + 2) (by omega)
    have e1 : (w / 2 + 1).toNat = p + 1 := by omega
    have e2 : (w / 2 + 2).toNat = p + 2 := by omega
    refine Is.of e80 (((r1.and r2).and ((wrefS w).and r4)).mp3 ha hb fun n ⟨⟨q1, q2⟩, q3, q4⟩ q5 q6 => ?_)
    cases h1 : bk W P d (gw W (p + 1)) with
    | none =>
      rw [h1] at q5
      simp only [outB] at q5
      cases h2 : bk W P d (gw W (p + 2)) <;> rw [h2] at q6 <;> simp only [outB] at q6 <;>
        simp (disch := omega) [F80, eqF, neF, geT, ltT, q1, q2, q3, q4, q5, q6, hpn, hn, hn1, hn2, e1, e2, w1, wrap64, outB]
    | some a =>
      rw [h1] at q5
      simp only [outB] at q5
      cases h2 : bk W P d (gw W (p + 2)) <;> rw [h2] at q6 <;> simp only [outB] at q6 <;>
        simp (disch := omega) [F80, eqF, neF, geT, ltT, q1, q2, q3, q4, q5, q6, hpn, hn, hn1, hn2, e1, e2, w1, wrap64, outB]
def backB (W : List Int) (half base next : Int) (w : Int) : Option PV := if heapB W half base next then bk W (plcs W base next) 16 w else none
theorem backTI (hW : W.length ≤ 1048576) (hW2 : ∀ w, w ∈ W → -9223372036854775808 ≤ w ∧ w < 9223372036854775808) (w : Int) : Rn 15 [heapV W half base next, .int w] (outB (backB W half base next w)) := by
  have h1 := heapI (half := half) (base := base) (next := next) hW
  unfold backB
  cases hc : heapB W half base next with
  | false =>
    rw [hc] at h1
    exact Is.of e15 (h1.mp fun n q => by simp [F15, q, outB])
  | true =>
    rw [hc] at h1
    refine Is.of e15 (h1.mp2 (backI (hok hW hW2 hc) 16 w (by omega)) fun n q1 q2 => ?_)
    simp at q2
    cases hb : bk W (plcs W base next) 16 w <;> rw [hb] at q2 <;> simp [outB] at q2 <;> simp [F15, q1, q2, outB]
theorem backTS (hW : W.length ≤ 1048576) (hW2 : ∀ w, w ∈ W → -9223372036854775808 ≤ w ∧ w < 9223372036854775808) (w : Int) : Rn 13 [heapV W half base next, .int w] (outB (backB W half base next w)) := by
  have h1 := heapS (half := half) (base := base) (next := next) hW fun w hw => (hW2 w hw).2
  unfold backB
  cases hc : heapB W half base next with
  | false =>
    rw [hc] at h1
    exact Is.of e13 (h1.mp fun n q => by simp [F13, q, outB])
  | true =>
    rw [hc] at h1
    refine Is.of e13 (h1.mp3 (placesS (heapB_pre hc).2 fun w hw => (hW2 w hw).2) (backS (hok hW hW2 hc) 16 w (by omega)) fun n q1 q2 q3 => ?_)
    simp at q3
    cases hb : bk W (plcs W base next) 16 w <;> rw [hb] at q3 <;> simp [outB] at q3 <;> simp [F13, q1, q2, q3, outB]
end
end Go.Proofs.Ytijgokehlicmnaa.GFnExactOutcome
