/- What functions of the program and of the reference come to, for the law FnExactVmOk. Each under the conditions that it names. -/
import Derived.Test.YtijgokehlicmnaaCFnExactVmOk
namespace Go.Proofs.Ytijgokehlicmnaa.GFnExactVmOk
open Go Go.Rsc Go.Proofs.Ytijgokehlicmnaa
set_option maxRecDepth 100000
set_option linter.unusedVariables false
set_option linter.unusedSimpArgs false
theorem andF' (b : Bool) : (b && false) = false := by cases b <;> rfl
/-- What a heap must be, ahead of all else. -/
theorem blocksI {W : List Int} {half base next : Int} (hW : W.length ≤ 1048576) : Rn 106 [heapV W half base next] (if preB W half base next && plcsB W base next then [nats (plcs W base next), .bool true] else [.list [], .bool false]) := by
  have hl := wordsLen W
  have r1 := is54 half 1 3000
  by_cases c1 : okR half 1 3000 = true
  rotate_left
  · have c1 : okR half 1 3000 = false := by simpa using c1
    rw [c1] at r1
    refine Is.of e106 (r1.mp fun n q1 => ?_)
    simp [F106, q1, preB, c1]
  have hh := okR_in c1
  rw [c1] at r1
  have w1 : IntKind.i64.wrap (2 * half) = 2 * half := wrap64 (by omega) (by omega)
  by_cases c2 : (W.length : Int) = 2 * half
  rotate_left
  · refine Is.of e106 (r1.mp fun n q1 => ?_)
    simp [F106, q1, preB, c1, w1, neT c2, eqF c2]
  by_cases c3 : base = 0 ∨ base = half
  rotate_left
  · have c30 : base ≠ 0 := fun e => c3 (.inl e)
    have c31 : base ≠ half := fun e => c3 (.inr e)
    refine Is.of e106 (r1.mp fun n q1 => ?_)
    simp [F106, q1, preB, c1, w1, neF c2, eqT c2, neT c30, neT c31, eqF c30, eqF c31]
  have w2 : IntKind.i64.wrap (base + half) = base + half := wrap64 (by omega) (by omega)
  have c4 : (neI base 0 && neI base half) = false := by
    rcases c3 with e | e
    · rw [neF e]; rfl
    · rw [neF e, andF']
  have c5 : (eqI base 0 || eqI base half) = true := by
    rcases c3 with e | e
    · rw [eqT e]; rfl
    · rw [eqT e, Bool.or_true]
  have r2 := is54 next base (base + half)
  have hv : ∀ n, ev Try.prog sg n 102 [.int half, .int 1, .int 3000] = some [.bool true] → ev Try.prog sg n 102 [.int next, .int base, .int (base + half)] = some [.bool (okR next base (base + half))] →
      F106 (ev Try.prog sg n) n [heapV W half base next] = if okR next base (base + half) then (thenN (thenE (loopEv (L106_0 (ev Try.prog sg n) n) n [.int base, .list [], heapV W half base next]) (passB 0)) (fun p10 => (some [(nth p10 0), (PV.bool true)])) (retE fun q11 => [(nth q11 0), (nth q11 1)])) else some [.list [], .bool false] := fun n q1 q2 => by
    have hsel : ∀ x y : Bool, selB x (.bool y) (.bool false) = .bool (x && y) := fun x y => by cases x <;> rfl
    rcases c3 with e | e
    · cases hb : okR next base (base + half) <;> rw [hb] at q2 <;> simp [F106, q1, q2, w1, w2, neF c2, neF e]
    · by_cases e0 : base = 0
      · cases hb : okR next base (base + half) <;> rw [hb] at q2 <;> simp [F106, q1, q2, w1, w2, neF c2, neF e0]
      · cases hb : okR next base (base + half) <;> rw [hb] at q2 <;> simp [F106, q1, q2, w1, w2, neF c2, neF e, neT e0]
  cases hn : okR next base (base + half) with
  | false =>
    rw [hn] at r2
    refine Is.of e106 (r1.mp2 r2 fun n q1 q2 => ?_)
    rw [hv n q1 (by rw [hn]; exact q2), hn]
    simp [preB, c1, eqT c2, c5, hn]
  | true =>
    have hp : preB W half base next = true := by simp [preB, c1, eqT c2, c5, hn]
    have h := pre_of hp
    have hr := h.rng
    rw [hn] at r2
    refine Is.of e106 (r1.mp4 r2 (blkI h 3000 base.toNat [] (by omega) (by omega) (by simp)) (Evt.ge 3001) fun n q1 q2 q3 q4 => ?_)
    rw [hv n q1 (by rw [hn]; exact q2), hn, hp]
    have q3 := q3 n (by omega)
    rw [hr.2.2.2.2.2.1] at q3
    rw [show nats [] = PV.list [] from rfl, List.nil_append] at q3
    rw [if_pos rfl, q3]
    cases hc : (plc W next.toNat 3000 base.toNat).1 <;> simp [hc, plcs, plcsB]
theorem placesS {W : List Int} {half base next : Int} (h : Pre W half base next) (hW : ∀ w, w ∈ W → w < 9223372036854775808) : Rn 79 [heapV W half base next] [nats (plcs W base next), .bool (plcsB W base next)] := by
  have hr := h.rng
  refine Is.of e79 ((blkS h hW 3000 base.toNat [] (by omega) (by omega) (by simp)).mp2 (Evt.ge 3001) fun n q3 q4 => ?_)
  have q3 := q3 n (by omega)
  rw [hr.2.2.2.2.2.1] at q3
  rw [show nats [] = PV.list [] from rfl, List.nil_append] at q3
  cases hc : (plc W next.toNat 3000 base.toNat).1 <;> rw [hc] at q3 <;> simp at q3 <;> simp [F79, q3, plcs, plcsB, hc]
/-! ### Whether a word is the place of a block -/
theorem hasS (P : List Nat) (x : Int) (hP : P.length ≤ 1048576) : Rn 168 [nats P, .int x] [.bool (inP P x)] := by
  have hl := natsLen P
  have h1 := all_loop (body := fun n => L168_0 (ev Try.prog sg n) n) (pay := fun i => [.int i, nats P, .int x]) (c := fun i => !eqI (gp P i : Int) x) (e1 := .x 0) (r1 := []) (e2 := .r) (r2 := [.bool true]) P.length (by simp) (by simp) (fun i hi hc => Evt.all fun n => ?_) (fun i hi hc => Evt.all fun n => ?_) (Evt.all fun n => ?_)
  · have hb : inP P x = !(List.range P.length).all fun i => !eqI (gp P i : Int) x := by
      cases hi : inP P x with
      | true =>
        obtain ⟨p, hp, e⟩ := inP_iff.1 hi
        obtain ⟨i, hi, rfl⟩ := List.getElem_of_mem hp
        have hg : gp P i = P[i] := by simp [gp, List.getD_eq_getElem?_getD, hi]
        have : ((List.range P.length).all fun i => !eqI (gp P i : Int) x) = false := List.all_eq_false.2 ⟨i, by simpa using hi, by rw [hg, eqT e]; simp⟩
        rw [this]; rfl
      | false =>
        have : ((List.range P.length).all fun i => !eqI (gp P i : Int) x) = true := List.all_eq_true.2 fun i hi2 => by
          by_cases e : (gp P i : Int) = x
          · rw [inP_iff.2 ⟨_, gp_mem (by simpa using hi2), e⟩] at hi; cases hi
          · rw [eqF e]; rfl
        rw [this]; rfl
    rw [hb]
    refine Is.of e168 (h1.mp fun n q => ?_)
    simp only [show ((0 : Nat) : Int) = 0 from rfl] at q
    cases hc : (List.range P.length).all fun i => !eqI (gp P i : Int) x <;> rw [hc] at q <;> simp at q <;> simp [F168, q]
  · have hn := nth_gp hi
    have hc : eqI (gp P i : Int) x = false := by simpa using hc
    simp (disch := omega) [L168_0, ltT, geT, hl, hn, hc, wrap64]
  · have hn := nth_gp hi
    have hc : eqI (gp P i : Int) x = true := by simpa using hc
    simp (disch := omega) [L168_0, ltT, geT, hl, hn, hc]
  · simp (disch := omega) [L168_0, ltF, hl]
theorem inS (P : List Nat) (x : Int) (hP : P.length ≤ 1048576) : Rn 113 [nats P, .int x] [.bool (inP P x)] :=
  Is.of e113 ((hasS P x hP).mp fun n q => by simp [F113, q])
theorem thereS (P : List Nat) (w : Int) (hP : P.length ≤ 1048576) : Rn 110 [nats P, .int w] [.bool (there P w)] := by
  refine Is.of e110 (((refS w).and (wrefS w)).mp4 (inS P (w / 2) hP) (wintS w) (is101 (w / 2)) fun n q1 q2 q3 q4 => ?_)
  obtain ⟨q0, q1⟩ := q1
  cases h : eqI (w % 2) 0 <;> rw [h] at q0 <;> simp [F110, q0, q1, q2, q3, q4, there, h]
theorem lessI (x y : Int) : Rn 194 [.int x, .int y] [.bool (ltI x y)] := by
  have h : ∀ z : Int, Rn 220 [.int z] [.bool false] := fun z => Is.of e220 (Evt.all fun n => by simp [F220, neF])
  exact Is.of e194 ((h x).mp fun n q => by simp [F194, q])
theorem nanI (z : Int) : Rn 195 [.int z] [.bool false] := Is.of e195 (Evt.all fun n => by simp [F195, neF])
theorem mid_eq {i j : Nat} (h : i + j < 4611686018427387904) : IntKind.i64.wrap (arith .shr .u64 (IntKind.u64.wrap (IntKind.i64.wrap ((i : Int) + (j : Int)))) 1) = (((i + j) / 2 : Nat) : Int) := by
  have e1 : IntKind.i64.wrap ((i : Int) + (j : Int)) = (i : Int) + j := wrap64 (by omega) (by omega)
  have e2 : IntKind.u64.wrap ((i : Int) + (j : Int)) = (i : Int) + j := by
    unfold IntKind.wrap
    simp only [IntKind.bits, IntKind.signed]
    first
      | omega
      | (simp; omega)
  rw [e1, e2]
  have e3 : arith .shr .u64 ((i : Int) + (j : Int)) 1 = ((i : Int) + j) / 2 := by
    show ((i : Int) + j).fdiv (2 ^ 1) = _
    rw [Int.fdiv_eq_ediv_of_nonneg _ (by decide)]
    rfl
  rw [e3, wrap64 (by omega) (by omega)]
  omega
theorem gp_lt {P : List Nat} (hs : P.Pairwise (· < ·)) {i j : Nat} (h : i < j) (hj : j < P.length) : gp P i < gp P j := by
  have := List.pairwise_iff_getElem.1 hs i j (by omega) hj h
  simpa [gp, List.getD_eq_getElem?_getD, hj, show i < P.length by omega] using this
theorem bsLoop (P : List Nat) (x : Int) (hs : P.Pairwise (· < ·)) (hP : P.length ≤ 1048576) : ∀ (d i j : Nat), j ≤ i + d → i ≤ j → j ≤ P.length → (∀ k, k < i → (gp P k : Int) < x) → (∀ k, j ≤ k → k < P.length → x ≤ (gp P k : Int)) →
    ∃ r, r ≤ P.length ∧ (∀ k, k < r → (gp P k : Int) < x) ∧ (∀ k, r ≤ k → k < P.length → x ≤ (gp P k : Int)) ∧
      Evt fun n => ∀ m, d + 1 ≤ m → loopEv (L167_0 (ev Try.prog sg n) n) m [.int j, .int P.length, nats P, .int i, .int x] = some (.x 0, [.int P.length, nats P, .int r, .int x]) := by
  have hl := natsLen P
  intro d
  induction d with
  | zero =>
    intro i j h1 h2 h3 h4 h5
    have e : i = j := by omega
    subst e
    refine ⟨i, h3, h4, h5, Evt.all fun n m hm => ?_⟩
    obtain ⟨m, rfl⟩ : ∃ m', m = m' + 1 := ⟨m - 1, by omega⟩
    simp (disch := omega) [loopEv, L167_0, ltF]
  | succ d ih =>
    intro i j h1 h2 h3 h4 h5
    by_cases hij : i < j
    rotate_left
    · have e : i = j := by omega
      subst e
      refine ⟨i, h3, h4, h5, Evt.all fun n m hm => ?_⟩
      obtain ⟨m, rfl⟩ : ∃ m', m = m' + 1 := ⟨m - 1, by omega⟩
      simp (disch := omega) [loopEv, L167_0, ltF]
    have hmid := mid_eq (i := i) (j := j) (by omega)
    generalize hc : (i + j) / 2 = c at hmid
    have hmid2 : IntKind.i64.wrap (arith .shr .u64 (IntKind.u64.wrap ((i : Int) + (j : Int))) 1) = (c : Int) := by rw [← hmid, wrap64 (x := (i : Int) + j) (by omega) (by omega)]
    have hn := nth_gp (P := P) (i := c) (by omega)
    by_cases hlt : (gp P c : Int) < x
    · obtain ⟨r, r1, r2, r3, r4⟩ := ih (c + 1) j (by omega) (by omega) h3 (fun k hk => by
        by_cases e : k = c
        · subst e; exact hlt
        · have := gp_lt hs (i := k) (j := c) (by omega) (by omega)
          omega) h5
      refine ⟨r, r1, r2, r3, (lessI (gp P c) x).mp2 r4 fun n q1 q2 m hm => ?_⟩
      obtain ⟨m, rfl⟩ : ∃ m', m = m' + 1 := ⟨m - 1, by omega⟩
      rw [ltT hlt] at q1
      have hB : L167_0 (ev Try.prog sg n) n [.int j, .int P.length, nats P, .int i, .int x] = some (.n, [.int j, .int P.length, nats P, .int (c + 1 : Nat), .int x]) := by
        simp (disch := omega) [L167_0, ltT, geT, hmid2, hl, hn, q1, wrap64]
      simp only [loopEv, hB, thenN_n]
      exact q2 m (by omega)
    · obtain ⟨r, r1, r2, r3, r4⟩ := ih i c (by omega) (by omega) (by omega) h4 (fun k hk hk2 => by
        by_cases e : k = c
        · subst e; omega
        · have := gp_lt hs (i := c) (j := k) (by omega) hk2
          omega)
      refine ⟨r, r1, r2, r3, (lessI (gp P c) x).mp2 r4 fun n q1 q2 m hm => ?_⟩
      obtain ⟨m, rfl⟩ : ∃ m', m = m' + 1 := ⟨m - 1, by omega⟩
      rw [ltF (by omega)] at q1
      have hB : L167_0 (ev Try.prog sg n) n [.int j, .int P.length, nats P, .int i, .int x] = some (.n, [.int c, .int P.length, nats P, .int i, .int x]) := by
        simp (disch := omega) [L167_0, ltT, geT, hmid2, hl, hn, q1, wrap64]
      simp only [loopEv, hB, thenN_n]
      exact q2 m (by omega)
theorem bsI (P : List Nat) (x : Int) (hs : P.Pairwise (· < ·)) (hP : P.length ≤ 1048576) : ∃ r : Int, Rn 167 [nats P, .int x] [.int r, .bool (inP P x)] := by
  have hl := natsLen P
  obtain ⟨r, r1, r2, r3, r4⟩ := bsLoop P x hs hP P.length 0 P.length (by omega) (by omega) (by omega) (fun k hk => by omega) (fun k hk hk2 => by omega)
  refine ⟨r, ?_⟩
  by_cases hr : r < P.length
  rotate_left
  · have hb : inP P x = false := by
      rw [← Bool.not_eq_true, inP_iff]
      rintro ⟨p, hp, e⟩
      obtain ⟨i, hi, rfl⟩ := List.getElem_of_mem hp
      have := r2 i (by omega)
      simp [gp, List.getD_eq_getElem?_getD, hi] at this
      omega
    refine Is.of e167 (r4.mp2 (Evt.ge (P.length + 1)) fun n q1 q2 => ?_)
    have q1 := q1 n q2
    simp only [show ((0 : Nat) : Int) = 0 from rfl] at q1
    simp (disch := omega) [F167, hl, q1, ltF, hb, isB_unit]
  have hn := nth_gp hr
  by_cases he : (gp P r : Int) = x
  · have hb : inP P x = true := inP_iff.2 ⟨_, gp_mem hr, he⟩
    refine Is.of e167 (r4.mp2 (Evt.ge (P.length + 1)) fun n q1 q2 => ?_)
    have q1 := q1 n q2
    simp only [show ((0 : Nat) : Int) = 0 from rfl] at q1
    simp (disch := omega) [F167, hl, q1, ltT, geT, hn, eqT he, hb, isB_unit]
  · have hb : inP P x = false := by
      rw [← Bool.not_eq_true, inP_iff]
      rintro ⟨p, hp, e⟩
      obtain ⟨i, hi, rfl⟩ := List.getElem_of_mem hp
      have hi2 : gp P i = P[i] := by simp [gp, List.getD_eq_getElem?_getD, hi]
      rcases Nat.lt_trichotomy i r with h | h | h
      · have := r2 i h; omega
      · subst h; exact he (by rw [hi2]; exact e)
      · have h1 := gp_lt hs h hi
        have h2 := r3 r (Nat.le_refl _) hr
        omega
    refine Is.of e167 (r4.mp3 (Evt.ge (P.length + 1)) (nanI (gp P r)) fun n q1 q2 q3 => ?_)
    have q1 := q1 n q2
    simp only [show ((0 : Nat) : Int) = 0 from rfl] at q1
    simp (disch := omega) [F167, hl, q1, ltT, geT, hn, eqF he, hb, q3, isB_unit]
theorem isBlockI (P : List Nat) (w : Int) (hs : P.Pairwise (· < ·)) (hP : P.length ≤ 1048576) : Rn 108 [nats P, .int w] [.bool (eqI (w % 2) 0 && inP P (w / 2))] := by
  obtain ⟨r, hr⟩ := bsI P (w / 2) hs hP
  refine Is.of e108 ((wrefI w).mp3 hr (refI w) fun n q1 q2 q3 => ?_)
  cases h : eqI (w % 2) 0 <;> rw [h] at q3 <;> simp [F108, q1, q2, q3]
end Go.Proofs.Ytijgokehlicmnaa.GFnExactVmOk
