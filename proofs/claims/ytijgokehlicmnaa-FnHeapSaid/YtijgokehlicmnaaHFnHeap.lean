/- What functions of the program and of the reference come to, for the law FnHeap. Each under the conditions that it names. -/
import Derived.Test.YtijgokehlicmnaaEFnHeap
namespace Go.Proofs.Ytijgokehlicmnaa.GFnHeap
open Go Go.Rsc Go.Proofs.Ytijgokehlicmnaa
set_option maxRecDepth 100000
set_option linter.unusedVariables false
set_option linter.unusedSimpArgs false
theorem newI (half : Int) : Rn 40 [.int half] (if okR half 1 3000 then [heapV (List.replicate (2 * half).toNat 0) half 0 0, .bool true] else [heapV [] 0 0 0, .bool false]) := by
  refine Is.of e40 ((is54 half 1 3000).mp fun n q => ?_)
  cases hc : okR half 1 3000 with
  | false => rw [hc] at q; simp [F40, q]
  | true =>
    have := okR_in hc
    rw [hc] at q
    simp (disch := omega) [F40, q, wrap64, geT, leT]
theorem newS (half : Int) : Rn 41 [.int half] (if okR half 1 3000 then [heapV (List.replicate (2 * half).toNat 0) half 0 0, .bool true] else [heapV [] 0 0 0, .bool false]) := by
  refine Is.of e41 ((is51 half 1 3000).mp fun n q => ?_)
  cases hc : okR half 1 3000 with
  | false => rw [hc] at q; simp [F41, q]
  | true =>
    have := okR_in hc
    rw [hc] at q
    simp (disch := omega) [F41, q, wrap64, geT, leT]
/-! ### Heaps that are drawn -/
def allP (P : List Nat) (R : List Int) : Bool := R.all (there P)
theorem range_gw {f : Int → Bool} (R : List Int) : ((List.range R.length).all fun i => f (gw R i)) = R.all f := by
  rw [Bool.eq_iff_iff, List.all_eq_true, List.all_eq_true]
  constructor
  · intro h x hx
    obtain ⟨i, hi, rfl⟩ := List.getElem_of_mem hx
    have := h i (by simpa using hi)
    simpa [gw, List.getD_eq_getElem?_getD, hi] using this
  · intro h i hi
    have hi : i < R.length := by simpa using hi
    exact h _ (by simp [gw, List.getD_eq_getElem?_getD, hi])
section
variable {W R : List Int} {half base next : Int}
theorem rightS (hW : W.length ≤ 1048576) (hW2 : Rng W) (hR : R.length ≤ 1048576) : Rn 85 [heapV W half base next, words R] [.bool (heapB W half base next && allP (plcs W base next) R)] := by
  have hl := wordsLen R
  have r1 := heapS (half := half) (base := base) (next := next) hW fun w hw => (hW2 w hw).2
  cases c1 : heapB W half base next with
  | false =>
    rw [c1] at r1
    exact Is.of e85 (r1.mp fun n q => by simp [F85, q])
  | true =>
  rw [c1] at r1
  have hp := (heapB_pre c1).2
  have r2 := placesS hp fun w hw => (hW2 w hw).2
  have hP := plcs_len W base next
  generalize plcs W base next = P at *
  have h1 := all_loop (body := fun n => L85_0 (ev Try.prog sg n) n) (pay := fun i => [.int i, nats P, words R]) (c := fun i => there P (gw R i)) (e1 := .x 0) (r1 := []) (e2 := .r) (r2 := [.bool false]) R.length (by simp) (by simp) (fun i hi hc => ?_) (fun i hi hc => ?_) (Evt.all fun n => ?_)
  · rw [range_gw] at h1
    refine Is.of e85 (r1.mp3 r2 h1 fun n q1 q2 q3 => ?_)
    unfold allP
    simp only [show ((0 : Nat) : Int) = 0 from rfl] at q3
    cases hc : R.all (there P) <;> rw [hc] at q3 <;> simp at q3 <;> simp [F85, q1, q2, q3]
  · have hn := nth_gw hi
    refine (thereS P (gw R i) (by omega)).mp fun n q => ?_
    rw [hc] at q
    simp (disch := omega) [L85_0, ltT, geT, hl, hn, q, wrap64]
  · have hn := nth_gw hi
    refine (thereS P (gw R i) (by omega)).mp fun n q => ?_
    rw [hc] at q
    simp (disch := omega) [L85_0, ltT, geT, hl, hn, q, wrap64]
  · simp (disch := omega) [L85_0, ltF, hl]
theorem kids_rng (hW : Rng W) (p : Nat) : Rng (kids W p) := fun w hw => by
  unfold kids at hw
  obtain ⟨k, _, rfl⟩ := List.mem_map.1 hw
  exact gw_big hW _
theorem mv_rng {b : Nat} {was : List Nat} (hb : b + sumB W was ≤ 100000) {x : Int} (hx : -9223372036854775808 ≤ x ∧ x < 9223372036854775808) (hi : inW was x) : -9223372036854775808 ≤ mv W b was x ∧ mv W b was x < 9223372036854775808 := by
  unfold mv
  split
  · rename_i he
    obtain ⟨h1, _⟩ := ix_lt (hi he)
    have := nowL_le (W := W) was b (ix was (x / 2).toNat) (by rw [nowL_len]; exact h1)
    omega
  · exact hx
structure DH (W : List Int) : Prop where
  l1 : 1 ≤ W.length
  l2 : W.length ≤ 6000
  big : Rng W
theorem collS (hW : DH W) (hR : Rng R) (hRl : R.length ≤ 1048576) : ∃ W' half' base' next' R', DH W' ∧ Rng R' ∧ R'.length = R.length ∧ Rn 21 [heapV W half base next, words R] [heapV W' half' base' next', words R'] := by
  have hl := wordsLen R
  have hl1 := hW.l2
  have r1 := rightS (half := half) (base := base) (next := next) (R := R) (by omega) hW.big hRl
  have rc := hcopyS (W := W) (half := half) (base := base) (next := next) (by omega)
  cases c1 : (heapB W half base next && allP (plcs W base next) R) with
  | false =>
    rw [c1] at r1
    refine ⟨W, half, base, next, R, hW, hR, rfl, Is.of e21 (r1.mp2 rc fun n q1 q2 => ?_)⟩
    simp (disch := omega) [F21, q1, q2, leNT, hl]
  | true =>
    rw [c1] at r1
    simp only [Bool.and_eq_true] at c1
    have h := sok c1.1
    have hp := (heapB_pre c1.1).2
    have hRt : ∀ x, x ∈ R → there (plcs W base next) x = true := fun x hx => List.all_eq_true.1 c1.2 x hx
    obtain ⟨fin, _, w1, w2, w3, r2⟩ := collectS h hRt hRl
    obtain ⟨g1, g2, g3, g4⟩ := hp
    have hs := sum_sub (W := W) w1.nodup w1.sub
    have hs2 := h.sum
    have hAl : (List.replicate (half - base).toNat (0 : Int) ++ blkF W (half - base).toNat fin fin).length = (half - base).toNat + sumB W fin := by simp [blkF_len]
    have hC : Rn 21 [heapV W half base next, words R] [toV (List.replicate (half - base).toNat 0 ++ blkF W (half - base).toNat fin fin) (2 * half).toNat half (half - base), words (R.map (mv W (half - base).toNat fin))] :=
      Is.of e21 (r1.mp2 r2 fun n q1 q2 => by simp only [F21, nth_0, nth_1, q1, q2, Option.bind_some, toBool_bool, Bool.not_true, iff_false', c1])
    refine ⟨_, _, _, _, _, ⟨?_, ?_, ?_⟩, ?_, ?_, hC⟩
    · rw [List.length_append, List.length_replicate]; have := hW.l1; omega
    · rw [List.length_append, List.length_replicate]; omega
    · intro w hw
      rcases List.mem_append.1 hw with hw | hw
      · rcases List.mem_append.1 hw with hw | hw
        · rw [(List.mem_replicate.1 hw).2]; decide
        · unfold blkF at hw
          obtain ⟨p, hp, hw⟩ := List.mem_flatMap.1 hw
          unfold blkM at hw
          rcases List.mem_cons.1 hw with rfl | hw
          · exact gw_big hW.big _
          · obtain ⟨x, hx, rfl⟩ := List.mem_map.1 hw
            exact mv_rng (by omega) (kids_rng hW.big p x hx) (w2 p hp x hx)
      · rw [(List.mem_replicate.1 hw).2]; decide
    · intro w hw
      obtain ⟨x, hx, rfl⟩ := List.mem_map.1 hw
      exact mv_rng (by omega) (hR x hx) (w3 x hx)
    · simp
theorem alloc_dh {K : List Int} {fn : Bool} {tag : Int} (hW : DH W) (hK : Rng K) : ∃ W' half' base' next' p ok, DH W' ∧ 0 ≤ p ∧ p ≤ 6000 ∧ allocR W half base next fn tag K = [heapV W' half' base' next', .int p, .bool ok] := by
  unfold allocR
  split
  · rename_i hc
    simp only [allocOk, Bool.and_eq_true] at hc
    obtain ⟨h1, h2, h3, h4, h5⟩ := hc
    have ht := okR_in h2
    have hk : K.length ≤ 20 := by have : (K.length : Int) ≤ 20 := by simpa [leI] using h3
                                  omega
    have hlt : (K.length : Int) < base + half - next := by simpa [ltI] using h4
    have hp := (heapB_pre h1).2
    have hr := hp.rng
    obtain ⟨g1, g2, g3, g4⟩ := hp
    have hh := hdW_rng (K := K) (fn := fn) ht hk
    have hpl : (putW W next.toNat (hdW fn tag K.length) K).length = W.length := by
      unfold putW
      exact putK_len (by omega) (Nat.le_refl _)
    exact ⟨_, _, _, _, _, _, ⟨by rw [hpl]; exact hW.l1, by rw [hpl]; exact hW.l2, putW_rng hW.big hK (by omega)⟩, by omega, by omega, rfl⟩
  · exact ⟨_, _, _, _, _, _, hW, by omega, by omega, rfl⟩
theorem kidsDraw (hv z : PV) (oi : PV) (hR : Rng R) (hR1 : 1 ≤ R.length) (hRl : R.length ≤ 1000) : ∀ (j i : Nat) (K : List Int) (c : PV), i + j = 3 → K.length ≤ i → Rng K → CurOk c → ∃ K' c', Rng K' ∧ K'.length ≤ 3 ∧ CurOk c' ∧
    Evt fun n => ∀ m, j + 1 ≤ m → loopEv (L164_0 (ev Try.prog sg n) n) m [.int i, words K, oi, words R, c, hv, z] = some (.x 2, [words K', oi, words R, c', hv, z]) := by
  have hl := wordsLen R
  intro j
  induction j with
  | zero =>
    intro i K c hi hK hKr hc
    obtain ⟨c1, x, k1, x0, x4, r1⟩ := belowS hc (n := 4) (by omega)
    refine ⟨K, c1, hKr, by omega, k1, r1.mp fun n q m hm => ?_⟩
    obtain ⟨m, rfl⟩ : ∃ m', m = m' + 1 := ⟨m - 1, by omega⟩
    have hB : L164_0 (ev Try.prog sg n) n [.int i, words K, oi, words R, c, hv, z] = some (.x 2, [words K, oi, words R, c1, hv, z]) := by
      simp (disch := omega) [L164_0, q, ltF]
    simp only [loopEv, hB, thenN_x, passE_eq]
  | succ j ih =>
    intro i K c hi hK hKr hc
    obtain ⟨c1, x, k1, x0, x4, r1⟩ := belowS hc (n := 4) (by omega)
    by_cases hx : (i : Int) < x
    · obtain ⟨c2, y, k2, y0, y1, r2⟩ := belowS k1 (n := R.length) (by omega)
      have hn := nth_gw (W := R) (i := y.toNat) (by omega)
      have hkl := wordsLen K
      obtain ⟨K', c', a1, a2, a3, r3⟩ := ih (i + 1) (K ++ [gw R y.toNat]) c2 (by omega) (by simp; omega) (fun w hw => by
        rcases List.mem_append.1 hw with hw | hw
        · exact hKr w hw
        · rw [List.mem_singleton.1 hw]; exact gw_big hR _) k2
      refine ⟨K', c', a1, a2, a3, r1.mp3 r2 r3 fun n q1 q2 q3 m hm => ?_⟩
      obtain ⟨m, rfl⟩ : ∃ m', m = m' + 1 := ⟨m - 1, by omega⟩
      have hB : L164_0 (ev Try.prog sg n) n [.int i, words K, oi, words R, c, hv, z] = some (.n, [.int (i + 1 : Nat), words (K ++ [gw R y.toNat]), oi, words R, c2, hv, z]) := by
        simp (disch := omega) [L164_0, q1, ltT, hl, q2, geT, hn, leNT, hkl, wrap64]
      simp only [loopEv, hB, thenN_n]
      exact q3 m (by omega)
    · refine ⟨K, c1, hKr, by omega, k1, r1.mp fun n q m hm => ?_⟩
      obtain ⟨m, rfl⟩ : ∃ m', m = m' + 1 := ⟨m - 1, by omega⟩
      have hB : L164_0 (ev Try.prog sg n) n [.int i, words K, oi, words R, c, hv, z] = some (.x 2, [words K, oi, words R, c1, hv, z]) := by
        simp (disch := omega) [L164_0, q, ltF]
      simp only [loopEv, hB, thenN_x, passE_eq]
end
theorem outDraw (z : PV) : ∀ (j i : Nat) (W R : List Int) (half base next : Int) (c : PV), i + j = 13 → DH W → Rng R → 1 ≤ R.length → R.length ≤ 2 + i → CurOk c → ∃ W' half' base' next' R' c', DH W' ∧ Rng R' ∧ 1 ≤ R'.length ∧ R'.length ≤ 20 ∧ CurOk c' ∧
    Evt fun n => ∀ m, j + 1 ≤ m → loopEv (L164_1 (ev Try.prog sg n) n) m [.int i, words R, c, heapV W half base next, z] = some (.x 0, [c', words R', heapV W' half' base' next', z]) := by
  intro j
  induction j with
  | zero =>
    intro i W R half base next c hi hW hR hR1 hRl hc
    obtain ⟨c1, x, k1, x0, x4, r1⟩ := belowS hc (n := 14) (by omega)
    refine ⟨W, half, base, next, R, c1, hW, hR, hR1, by omega, k1, r1.mp fun n q m hm => ?_⟩
    obtain ⟨m, rfl⟩ : ∃ m', m = m' + 1 := ⟨m - 1, by omega⟩
    have hB : L164_1 (ev Try.prog sg n) n [.int i, words R, c, heapV W half base next, z] = some (.x 0, [c1, words R, heapV W half base next, z]) := by
      simp (disch := omega) [L164_1, q, ltF]
    simp only [loopEv, hB, thenN_x, passE_eq]
  | succ j ih =>
    intro i W R half base next c hi hW hR hR1 hRl hc
    obtain ⟨c1, x, k1, x0, x4, r1⟩ := belowS hc (n := 14) (by omega)
    by_cases hx : (i : Int) < x
    rotate_left
    · refine ⟨W, half, base, next, R, c1, hW, hR, hR1, by omega, k1, r1.mp fun n q m hm => ?_⟩
      obtain ⟨m, rfl⟩ : ∃ m', m = m' + 1 := ⟨m - 1, by omega⟩
      have hB : L164_1 (ev Try.prog sg n) n [.int i, words R, c, heapV W half base next, z] = some (.x 0, [c1, words R, heapV W half base next, z]) := by
        simp (disch := omega) [L164_1, q, ltF]
      simp only [loopEv, hB, thenN_x, passE_eq]
    obtain ⟨K, c2, kr, kl, k2, r2⟩ := kidsDraw (heapV W half base next) z (.int i) hR hR1 (by omega) 3 0 [] c1 (by omega) (by simp) (by intro w hw; simp at hw) k1
    obtain ⟨c3, fn, k3, r3⟩ := onceS k2 (n := 4) (by omega)
    obtain ⟨c4, tag, k4, t0, t5, r4⟩ := belowS k3 (n := 5) (by omega)
    have r5 := allocS (half := half) (base := base) (next := next) (fn := fn) (tag := tag) (K := K) (by have := hW.l2; omega) hW.big kr (by omega)
    obtain ⟨W1, half1, base1, next1, p, ok, hW1, p0, p1, ea⟩ := alloc_dh (half := half) (base := base) (next := next) (fn := fn) (tag := tag) hW kr
    rw [ea] at r5
    -- the roots behind it
    obtain ⟨R1, W2, half2, base2, next2, hR1r, hR11, hR1l, hW2, hmid⟩ : ∃ R1 W2 half2 base2 next2, Rng R1 ∧ 1 ≤ R1.length ∧ R1.length ≤ 3 + i ∧ DH W2 ∧ Evt fun n => thenN (iff ok
        ((ev Try.prog sg n 191 [.int p]).bind fun r12 => (iff (leN ((words R).toList.length + ((nth r12 0) :: ([] : List PV)).length) 17592186044416) (some (Ex.n, [.int i, (PV.list ((words R).toList ++ ((nth r12 0) :: ([] : List PV)))), c4, heapV W1 half1 base1 next1, z])) none))
        (some (Ex.n, [.int i, words R, c4, heapV W half base next, z]))) (fun x => (some (Ex.n, x) : Option (Ex × List PV))) passE = some (.n, [.int i, words R1, c4, heapV W2 half2 base2 next2, z]) := by
      cases ok with
      | false => exact ⟨R, W, half, base, next, hR, hR1, by omega, hW, Evt.all fun n => by simp⟩
      | true =>
        refine ⟨R ++ [2 * p], W1, half1, base1, next1, fun w hw => ?_, by simp, by simp; omega, hW1, (refWS p0 p1).mp fun n q => ?_⟩
        · rcases List.mem_append.1 hw with hw | hw
          · exact hR w hw
          · rw [List.mem_singleton.1 hw]; omega
        · have hl := wordsLen R
          simp (disch := omega) [q, leNT, hl]
    obtain ⟨c5, b9, k5, r6⟩ := onceS k4 (n := 9) (by omega)
    obtain ⟨W3, half3, base3, next3, R3, hW3, hR3, hR3l, r7⟩ := collS (half := half2) (base := base2) (next := next2) hW2 hR1r (by omega)
    obtain ⟨W4, half4, base4, next4, R4, hW4, hR4, hR41, hR4l, hstep⟩ : ∃ W4 half4 base4 next4 R4, DH W4 ∧ Rng R4 ∧ 1 ≤ R4.length ∧ R4.length ≤ 2 + (i + 1) ∧ Evt fun n => L164_1 (ev Try.prog sg n) n [.int i, words R, c, heapV W half base next, z] = some (.n, [.int (i + 1 : Nat), words R4, c5, heapV W4 half4 base4 next4, z]) := by
      have go : ∀ (W4 R4 : List Int) (half4 base4 next4 : Int), (Evt fun n => (iff b9 ((ev Try.prog sg n 21 [heapV W2 half2 base2 next2, words R1]).bind fun r15 => (some (Ex.n, [.int i, (nth r15 1), c5, (nth r15 0), z]))) (some (Ex.n, [.int i, words R1, c5, heapV W2 half2 base2 next2, z]))) = some (.n, [.int i, words R4, c5, heapV W4 half4 base4 next4, z])) →
          Evt fun n => L164_1 (ev Try.prog sg n) n [.int i, words R, c, heapV W half base next, z] = some (.n, [.int (i + 1 : Nat), words R4, c5, heapV W4 half4 base4 next4, z]) := by
        intro W4 R4 half4 base4 next4 hl
        refine (((r1.and r2).and (Evt.ge 10)).and ((r3.and r4).and (r5.and hmid))).mp3 r6 hl fun n ⟨⟨⟨q1, q2⟩, q0⟩, ⟨q3, q4⟩, q5, q6⟩ q7 q8 => ?_
        have q2 := q2 n (by omega)
        simp only [show ((0 : Nat) : Int) = 0 from rfl] at q2
        have e0 : words ([] : List Int) = .list [] := rfl
        rw [e0] at q2
        generalize heapV W half base next = h0 at *
        generalize heapV W1 half1 base1 next1 = h1 at *
        generalize heapV W2 half2 base2 next2 = h2 at *
        generalize heapV W4 half4 base4 next4 = h4 at *
        generalize words R = wr at *
        generalize words R1 = wr1 at *
        generalize words R4 = wr4 at *
        generalize words K = wk at *
        have hmid2 : (iff ok ((ev Try.prog sg n 191 [.int p]).bind fun r12 => (iff (leN (wr.toList.length + ((nth r12 0) :: ([] : List PV)).length) 17592186044416) (some (Ex.n, [.int i, (PV.list (wr.toList ++ ((nth r12 0) :: ([] : List PV)))), c4, h1, z])) none)) (some (Ex.n, [.int i, wr, c4, h0, z]))) = some (.n, [.int i, wr1, c4, h2, z]) := by
          revert q6
          generalize (iff ok ((ev Try.prog sg n 191 [.int p]).bind fun r12 => (iff (leN (wr.toList.length + ((nth r12 0) :: ([] : List PV)).length) 17592186044416) (some (Ex.n, [.int i, (PV.list (wr.toList ++ ((nth r12 0) :: ([] : List PV)))), c4, h1, z])) none)) (some (Ex.n, [.int i, wr, c4, h0, z]))) = X
          intro q6
          cases X with
          | none => simp [thenN] at q6
          | some y =>
            obtain ⟨e, ps⟩ := y
            cases e <;> first | (simp [thenN] at q6; done) | simpa [thenN] using q6
        have w1 : IntKind.i64.wrap ((i : Int) + 1) = ((i + 1 : Nat) : Int) := by rw [wrap64 (by omega) (by omega)]; omega
        simp (disch := omega) only [L164_1, nth_0, nth_1, nth_2, nth_3, nth_4, nth_5, toInt_int, toBool_bool, q1, Option.bind_some, ltT, iff_true', q2, thenE_some, passB_same, thenN_n, q3, q4, q5, hmid2, q7, q8, w1]
      cases b9 with
      | false => exact ⟨W2, half2, base2, next2, R1, hW2, hR1r, hR11, by omega, go _ _ _ _ _ (Evt.all fun n => rfl)⟩
      | true => exact ⟨W3, half3, base3, next3, R3, hW3, hR3, by omega, by omega, go _ _ _ _ _ (r7.mp fun n q => by simp [q])⟩
    obtain ⟨W', half', base', next', R', c', a1, a2, a3, a4, a5, a6⟩ := ih (i + 1) W4 R4 half4 base4 next4 c5 (by omega) hW4 hR4 hR41 hR4l k5
    refine ⟨W', half', base', next', R', c', a1, a2, a3, a4, a5, hstep.mp2 a6 fun n q1 q2 m hm => ?_⟩
    obtain ⟨m, rfl⟩ : ∃ m', m = m' + 1 := ⟨m - 1, by omega⟩
    simp only [loopEv, q1, thenN_n]
    exact q2 m (by omega)
theorem drawRight {c : PV} (hc : CurOk c) : ∃ W half base next R c', DH W ∧ Rng R ∧ 1 ≤ R.length ∧ R.length ≤ 20 ∧ CurOk c' ∧ Rn 164 [c] [heapV W half base next, words R, c'] := by
  obtain ⟨c1, x, k1, hx, r1⟩ := pickS hc (V := [1, 6, 20, 60]) (by simp)
  have hxr : 1 ≤ x ∧ x ≤ 60 := by simp at hx; omega
  have r2 := newS x
  rw [show okR x 1 3000 = true by simp [okR]; omega] at r2
  simp only [if_true] at r2
  have r3 : Rn 192 [.int 5] [.int 11] := Is.of e192 ((is101 5).mp fun n q => by simp [okW] at q; simp [F192, q, wrap64])
  obtain ⟨W, half, base, next, R, c', a1, a2, a3, a4, a5, r4⟩ := outDraw (.agg [.list [], .int 0, .int 0, .int 0]) 13 0 (List.replicate (2 * x).toNat 0) [1, 11] x 0 0 c1 (by omega) ⟨by simp; omega, by simp; omega, fun w hw => by rw [(List.mem_replicate.1 hw).2]; decide⟩ (fun w hw => by simp at hw; omega) (by simp) (by simp) k1
  refine ⟨W, half, base, next, R, c', a1, a2, a3, a4, a5, Is.of e164 (((r1.and r2).and (r3.and r4)).mp2 (Evt.ge 14) fun n ⟨⟨q1, q2⟩, q3, q4⟩ q5 => ?_)⟩
  have q4 := q4 n q5
  simp only [show ((0 : Nat) : Int) = 0 from rfl] at q4
  have e1 : words [1, 6, 20, 60] = .list [.int 1, .int 6, .int 20, .int 60] := rfl
  have e2 : words [1, 11] = .list [.int 1, .int 11] := rfl
  rw [e1] at q1
  rw [e2] at q4
  generalize heapV (List.replicate (2 * x).toNat 0) x 0 0 = h0 at *
  simp [F164, q1, q2, q3, q4]
theorem drawAny {c : PV} (hc : CurOk c) : ∃ W half base next R c', DH W ∧ Rng R ∧ 1 ≤ R.length ∧ R.length ≤ 30 ∧ CurOk c' ∧ Rn 98 [c] [heapV W half base next, words R, c'] := by
  obtain ⟨W, half, base, next, R, c1, hW, hR, hR1, hRl, k1, r1⟩ := drawRight hc
  have hl := wordsLen R
  have hwl := wordsLen W
  obtain ⟨c2, x, k2, x0, x14, r2⟩ := belowS k1 (n := 14) (by omega)
  by_cases h0 : x = 0
  · obtain ⟨c3, y, k3, y0, y1, r3⟩ := belowS k2 (n := W.length) (by have := hW.l1; omega)
    obtain ⟨c4, v, k4, hv, r4⟩ := pickS k3 (V := [0, 1, 2, 3, 200, 99999, -1, 9223372036854775807]) (by simp)
    have e4 : words [0, 1, 2, 3, 200, 99999, -1, 9223372036854775807] = .list [.int 0, .int 1, .int 2, .int 3, .int 200, .int 99999, .int (-1), .int 9223372036854775807] := rfl
    rw [e4] at r4
    refine ⟨W.set y.toNat v, half, base, next, R, c4, ⟨by simp; exact hW.l1, by simp; exact hW.l2, fun w hw => ?_⟩, hR, hR1, by omega, k4, Is.of e98 ((r1.and r2).mp3 r3 r4 fun n ⟨q1, q2⟩ q3 q4 => ?_)⟩
    · rcases List.mem_or_eq_of_mem_set hw with hw | rfl
      · exact hW.big w hw
      · simp at hv; omega
    · simp (disch := omega) [F98, q1, q2, eqT, hwl, q3, q4, geT, ltT, List.map_set]
  by_cases h1 : x = 1
  · obtain ⟨c4, v, k4, hv, r4⟩ := pickS k2 (V := [-1, 0, 1, 3, 60, 121]) (by simp)
    have e4 : words [-1, 0, 1, 3, 60, 121] = .list [.int (-1), .int 0, .int 1, .int 3, .int 60, .int 121] := rfl
    rw [e4] at r4
    refine ⟨W, half, base, v, R, c4, hW, hR, hR1, by omega, k4, Is.of e98 (r1.mp3 r2 r4 fun n q1 q2 q4 => ?_)⟩
    simp (disch := omega) [F98, q1, q2, eqT, eqF, q4]
  by_cases h2 : x = 2
  · obtain ⟨c4, v, k4, hv, r4⟩ := pickS k2 (V := [0, 1, 6, 20]) (by simp)
    have e4 : words [0, 1, 6, 20] = .list [.int 0, .int 1, .int 6, .int 20] := rfl
    rw [e4] at r4
    refine ⟨W, half, v, next, R, c4, hW, hR, hR1, by omega, k4, Is.of e98 (r1.mp3 r2 r4 fun n q1 q2 q4 => ?_)⟩
    simp (disch := omega) [F98, q1, q2, eqT, eqF, q4]
  by_cases h3 : x = 3
  · obtain ⟨c4, v, k4, hv, r4⟩ := pickS k2 (V := [0, 6, 3001]) (by simp)
    have e4 : words [0, 6, 3001] = .list [.int 0, .int 6, .int 3001] := rfl
    rw [e4] at r4
    refine ⟨W, v, base, next, R, c4, hW, hR, hR1, by omega, k4, Is.of e98 (r1.mp3 r2 r4 fun n q1 q2 q4 => ?_)⟩
    simp (disch := omega) [F98, q1, q2, eqT, eqF, q4]
  by_cases h4 : x = 4
  · obtain ⟨c4, v, k4, hv, r4⟩ := pickS k2 (V := [0, 2, 4, 98, -2]) (by simp)
    have e4 : words [0, 2, 4, 98, -2] = .list [.int 0, .int 2, .int 4, .int 98, .int (-2)] := rfl
    rw [e4] at r4
    refine ⟨W, half, base, next, R ++ [v], c4, hW, fun w hw => ?_, by simp, by simp; omega, k4, Is.of e98 (r1.mp3 r2 r4 fun n q1 q2 q4 => ?_)⟩
    · rcases List.mem_append.1 hw with hw | hw
      · exact hR w hw
      · rw [List.mem_singleton.1 hw]
        simp at hv
        omega
    · simp (disch := omega) [F98, q1, q2, eqT, eqF, q4, leNT, hl]
  · refine ⟨W, half, base, next, R, c2, hW, hR, hR1, by omega, k2, Is.of e98 (r1.mp2 r2 fun n q1 q2 => ?_)⟩
    simp (disch := omega) [F98, q1, q2, eqF]
theorem kidsDraw2 (hv z : PV) {R : List Int} (hR : Rng R) (hR1 : 1 ≤ R.length) (hRl : R.length ≤ 1000) : ∀ (j i : Nat) (K : List Int) (c : PV), i + j = 3 → K.length ≤ i → Rng K → CurOk c → ∃ K' c', Rng K' ∧ K'.length ≤ 3 ∧ CurOk c' ∧
    Evt fun n => ∀ m, j + 1 ≤ m → loopEv (L29_0 (ev Try.prog sg n) n) m [.int i, words R, words K, hv, c, z] = some (.x 0, [words K', hv, c', z]) := by
  have hl := wordsLen R
  intro j
  induction j with
  | zero =>
    intro i K c hi hK hKr hc
    obtain ⟨c1, x, k1, x0, x4, r1⟩ := belowS hc (n := 4) (by omega)
    refine ⟨K, c1, hKr, by omega, k1, r1.mp fun n q m hm => ?_⟩
    obtain ⟨m, rfl⟩ : ∃ m', m = m' + 1 := ⟨m - 1, by omega⟩
    have hB : L29_0 (ev Try.prog sg n) n [.int i, words R, words K, hv, c, z] = some (.x 0, [words K, hv, c1, z]) := by
      simp (disch := omega) [L29_0, q, ltF]
    simp only [loopEv, hB, thenN_x, passE_eq]
  | succ j ih =>
    intro i K c hi hK hKr hc
    obtain ⟨c1, x, k1, x0, x4, r1⟩ := belowS hc (n := 4) (by omega)
    by_cases hx : (i : Int) < x
    · obtain ⟨c2, y, k2, y0, y1, r2⟩ := belowS k1 (n := R.length) (by omega)
      have hn := nth_gw (W := R) (i := y.toNat) (by omega)
      have hkl := wordsLen K
      obtain ⟨K', c', a1, a2, a3, r3⟩ := ih (i + 1) (K ++ [gw R y.toNat]) c2 (by omega) (by simp; omega) (fun w hw => by
        rcases List.mem_append.1 hw with hw | hw
        · exact hKr w hw
        · rw [List.mem_singleton.1 hw]; exact gw_big hR _) k2
      refine ⟨K', c', a1, a2, a3, r1.mp3 r2 r3 fun n q1 q2 q3 m hm => ?_⟩
      obtain ⟨m, rfl⟩ : ∃ m', m = m' + 1 := ⟨m - 1, by omega⟩
      have hB : L29_0 (ev Try.prog sg n) n [.int i, words R, words K, hv, c, z] = some (.n, [.int (i + 1 : Nat), words R, words (K ++ [gw R y.toNat]), hv, c2, z]) := by
        simp (disch := omega) [L29_0, q1, ltT, hl, q2, geT, hn, leNT, hkl, wrap64]
      simp only [loopEv, hB, thenN_n]
      exact q3 m (by omega)
    · refine ⟨K, c1, hKr, by omega, k1, r1.mp fun n q m hm => ?_⟩
      obtain ⟨m, rfl⟩ : ∃ m', m = m' + 1 := ⟨m - 1, by omega⟩
      have hB : L29_0 (ev Try.prog sg n) n [.int i, words R, words K, hv, c, z] = some (.x 0, [words K, hv, c1, z]) := by
        simp (disch := omega) [L29_0, q, ltF]
      simp only [loopEv, hB, thenN_x, passE_eq]
section
variable {bs : List PV}
theorem drawAlloc (hb : Bs bs) : ∃ W half base next fn tag K, DH W ∧ Rng K ∧ K.length ≤ 10 ∧ Rn 29 [.list bs] [heapV W half base next, .bool fn, .int tag, words K] := by
  obtain ⟨c, k0, r0⟩ := newCur hb
  obtain ⟨W, half, base, next, R, c1, hW, hR, hR1, hRl, k1, r1⟩ := drawAny k0
  obtain ⟨K, c2, hK, hKl, k2, r2⟩ := kidsDraw2 (heapV W half base next) (.agg [.list [], .int 0, .int 0, .int 0]) hR hR1 (by omega) 3 0 [] c1 (by omega) (by simp) (fun w hw => by simp at hw) k1
  obtain ⟨c3, b3, k3, r3⟩ := onceS k2 (n := 12) (by omega)
  obtain ⟨c4, fn, k4, r4⟩ := onceS k3 (n := 3) (by omega)
  obtain ⟨c5, tag, k5, ht, r5⟩ := pickS k4 (V := [0, 1, 7, 3000, 3001, -1]) (by simp)
  have e5 : words [0, 1, 7, 3000, 3001, -1] = .list [.int 0, .int 1, .int 7, .int 3000, .int 3001, .int (-1)] := rfl
  rw [e5] at r5
  have hkl := wordsLen K
  have e0 : words ([] : List Int) = .list [] := rfl
  rw [e0] at r2
  refine ⟨W, half, base, next, fn, tag, if b3 then K ++ [98] else K, hW, ?_, ?_, Is.of e29 (((r0.and r1).and (r2.and (Evt.ge 4))).mp4 r3 r4 r5 fun n ⟨⟨q0, q1⟩, q2, qn⟩ q3 q4 q5 => ?_)⟩
  · cases b3 with
    | false => exact hK
    | true =>
      intro w hw
      simp only [if_true] at hw
      rcases List.mem_append.1 hw with hw | hw
      · exact hK w hw
      · rw [List.mem_singleton.1 hw]; decide
  · cases b3 <;> simp <;> omega
  · have q2 := q2 n qn
    simp only [show ((0 : Nat) : Int) = 0 from rfl] at q2
    generalize heapV W half base next = h0 at *
    cases b3 <;> simp (disch := omega) [F29, q0, q1, q2, q3, q4, q5, leNT, hkl]
theorem drawBlock (hb : Bs bs) : ∃ W half base next p, DH W ∧ Rn 35 [.list bs] [heapV W half base next, .int p] := by
  obtain ⟨c, k0, r0⟩ := newCur hb
  obtain ⟨W, half, base, next, R, c1, hW, hR, hR1, hRl, k1, r1⟩ := drawAny k0
  obtain ⟨c2, y, k2, y0, y1, r2⟩ := belowS k1 (n := R.length) (by omega)
  have hn := nth_gw (W := R) (i := y.toNat) (by omega)
  have hl := wordsLen R
  have r3 := wrefS (gw R y.toNat)
  obtain ⟨c3, b3, k3, r4⟩ := onceS k2 (n := 4) (by omega)
  cases b3 with
  | false =>
    refine ⟨W, half, base, next, gw R y.toNat / 2, hW, Is.of e35 ((r0.and r1).mp4 r2 r3 r4 fun n ⟨q0, q1⟩ q2 q3 q4 => ?_)⟩
    simp (disch := omega) [F35, q0, q1, q2, q3, q4, hl, geT, ltT, hn]
  | true =>
    obtain ⟨c4, x, k4, x0, x1, r5⟩ := belowS k3 (n := 9) (by omega)
    refine ⟨W, half, base, next, x - 1, hW, Is.of e35 (((r0.and r1).and r5).mp4 r2 r3 r4 fun n ⟨⟨q0, q1⟩, q5⟩ q2 q3 q4 => ?_)⟩
    simp (disch := omega) [F35, q0, q1, q2, q3, q4, q5, hl, geT, ltT, hn, wrap64]
theorem drawRoom (hb : Bs bs) : ∃ W half base next, DH W ∧ Rn 38 [.list bs] [heapV W half base next] := by
  obtain ⟨c, k0, r0⟩ := newCur hb
  obtain ⟨W, half, base, next, R, c1, hW, hR, hR1, hRl, k1, r1⟩ := drawAny k0
  have r2 : Rn 114 [.list bs] [heapV W half base next] := Is.of e114 (r0.mp2 r1 fun n q0 q1 => by simp [F114, q0, q1])
  exact ⟨W, half, base, next, hW, Is.of e38 (r2.mp fun n q => by simp [F38, q])⟩
theorem drawNew (hb : Bs bs) : ∃ x : Int, Rn 39 [.list bs] [.int x] := by
  obtain ⟨c, k0, r0⟩ := newCur hb
  obtain ⟨c1, x, k1, hx, r1⟩ := pickS k0 (V := [0, 1, 5, 3000, 3001, -1]) (by simp)
  have e1 : words [0, 1, 5, 3000, 3001, -1] = .list [.int 0, .int 1, .int 5, .int 3000, .int 3001, .int (-1)] := rfl
  rw [e1] at r1
  exact ⟨x, Is.of e39 (r0.mp2 r1 fun n q0 q1 => by simp [F39, q0, q1])⟩
end
end Go.Proofs.Ytijgokehlicmnaa.GFnHeap
