/- What functions of the program and of the reference come to, for the law FnExactCollect. Each under the conditions that it names. -/
import Derived.Test.YthmhgnnaihkjaaaHFnExactCollect
namespace Go.Proofs.Ythmhgnnaihkjaaa.GFnExactCollect
open Go Go.Rsc Go.Proofs.Ythmhgnnaihkjaaa
set_option maxRecDepth 100000
set_option linter.unusedVariables false
set_option linter.unusedSimpArgs false
theorem wfInts {W : List Int} (h1 : W.length ≤ 9223372036854775807) (h : ∀ w, w ∈ W → -9223372036854775808 ≤ w ∧ w < 9223372036854775808) : WfT Try.prog 22 (words W) := by
  refine .slice (e := 3) (by kernel_rfl) (by have hm : maxLen = 9223372036854775807 := rfl; rw [hm]; simpa using h1) fun q hq => ?_
  obtain ⟨w, hw, rfl⟩ := List.mem_map.1 hq
  exact .int (k := .i64) (by kernel_rfl) (wf_mk64 (h w hw).1 (h w hw).2)
def i64 (x : Int) : Prop := -9223372036854775808 ≤ x ∧ x < 9223372036854775808
section
variable {W R : List Int} {half base next : Int} {P fin : List Nat} {b : Nat}
theorem gw_i64 (h : ∀ w, w ∈ W → i64 w) (i : Nat) : i64 (gw W i) := by
  unfold gw
  rw [List.getD_eq_getElem?_getD]
  cases e : W[i]? with
  | none => exact ⟨by decide, by decide⟩
  | some w => exact h w (List.mem_of_getElem? e)
theorem mv_i64 (hf : Way P fin) (h : SOk W half base next P) (hb : (b : Int) + half ≤ 6000) {x : Int} (hx : inW fin x) (hr : i64 x) : i64 (mv W b fin x) := by
  unfold mv
  split
  · rename_i he
    obtain ⟨i1, _, _⟩ := ix_lt (hx he)
    have hle := nowL_le (W := W) fin b (ix fin (x / 2).toNat) (by rw [nowL_len]; exact i1)
    have hs0 := sum_sub (W := W) hf.nodup hf.sub
    have hs1 := h.sum
    unfold i64
    omega
  · exact hr
theorem col_i64 (hf : Way P fin) (h : SOk W half base next P) (hb : (b : Int) + half ≤ 6000) (hk : ∀ q, q ∈ fin → ∀ x, x ∈ kids W q → inW fin x) (hW : ∀ w, w ∈ W → i64 w) (n : Nat) : ∀ w, w ∈ List.replicate b 0 ++ blkF W b fin fin ++ List.replicate n 0 → i64 w := by
  have z : i64 0 := ⟨by decide, by decide⟩
  intro w hw
  rcases List.mem_append.1 hw with hw | hw
  · rcases List.mem_append.1 hw with hw | hw
    · rw [(List.mem_replicate.1 hw).2]; exact z
    · obtain ⟨p, hp, hw⟩ := List.mem_flatMap.1 hw
      rcases List.mem_cons.1 hw with rfl | hw
      · exact gw_i64 hW _
      · obtain ⟨x, hx, rfl⟩ := List.mem_map.1 hw
        refine mv_i64 hf h hb (hk p hp x hx) ?_
        obtain ⟨k, _, rfl⟩ := List.mem_map.1 hx
        exact gw_i64 hW _
  · rw [(List.mem_replicate.1 hw).2]; exact z
theorem both (hW : W.length ≤ 1048576) (hW2 : ∀ w, w ∈ W → i64 w) (hR : R.length ≤ 1048576) (hR2 : ∀ w, w ∈ R → i64 w) (h0 : i64 half ∧ i64 base ∧ i64 next) :
    ∃ (A B : List Int) (hf bs nx : Int), A.length ≤ 1048576 ∧ (∀ w, w ∈ A → i64 w) ∧ B.length ≤ 1048576 ∧ (∀ w, w ∈ B → i64 w) ∧ (i64 hf ∧ i64 bs ∧ i64 nx) ∧
      Rn 10 [heapV W half base next, words R] [heapV A hf bs nx, words B] ∧ Rn 7 [heapV W half base next, words R] [heapV A hf bs nx, words B] := by
  have ri := rootsI (half := half) (base := base) (next := next) hW hR
  have rs := rightS (half := half) (base := base) (next := next) hW hW2 hR
  have er : (heapB W half base next && allP (plcs W base next) R) = rootsB W half base next R := rfl
  rw [er] at rs
  cases hc : rootsB W half base next R with
  | false =>
    rw [hc] at ri rs
    have hl := wordsLen R
    refine ⟨W, R, half, base, next, hW, hW2, hR, hR2, h0, ?_, ?_⟩
    · refine Is.of e10 (ri.mp3 (hcopyI (half := half) (base := base) (next := next) hW) (copyI (l := R.map PV.int) (by omega)) fun n q1 q2 q3 => ?_)
      simp only [F10, nth_0, nth_1, q1, q2, q3, Option.bind_some, toBool_bool, Bool.not_false, iff_true']
    · refine Is.of e7 (rs.mp2 (hcopyS (half := half) (base := base) (next := next) hW) fun n q1 q2 => ?_)
      have c1 : leN (([] : List PV).length + (R.map PV.int).length) 17592186044416 = true := leNT (by simp only [List.length_nil]; omega)
      simp only [F7, nth_0, nth_1, q1, q2, Option.bind_some, toBool_bool, Bool.not_false, iff_true', toList_list, c1, List.nil_append]
  | true =>
    have hcc := hc
    simp only [rootsB, Bool.and_eq_true] at hcc
    have hs := sok hcc.1
    have hRP : ∀ x, x ∈ R → there (plcs W base next) x = true := List.all_eq_true.1 hcc.2
    obtain ⟨fin, f1, f2, f3, f4, f5⟩ := collectS hs hRP hR
    have ci := collectI hs hW hRP hR f1 f2 f3 f4 hc
    obtain ⟨g1, g2, g3, g4⟩ := hs.pre
    have hbb : (((half - base).toNat : Nat) : Int) = half - base := by omega
    have hs0 := sum_sub (W := W) f2.nodup f2.sub
    have hs1 := hs.sum
    have hal : (List.replicate (half - base).toNat (0 : Int) ++ blkF W (half - base).toNat fin fin).length = (half - base).toNat + sumB W fin := by simp [blkF_len]
    rw [hc] at rs
    refine ⟨_, _, _, _, _, ?_, col_i64 f2 hs (by omega) f3 hW2 _, ?_, ?_, ?_, ci, Is.of e7 (rs.mp2 f5 fun n q1 q2 => ?_)⟩
    · rw [List.length_append, List.length_replicate, hal]; omega
    · rw [List.length_map]; exact hR
    · intro w hw
      obtain ⟨x, hx, rfl⟩ := List.mem_map.1 hw
      exact mv_i64 f2 hs (by omega) (f4 x hx) (hR2 x hx)
    · rw [hal]
      unfold i64
      omega
    · simp only [F7, nth_0, nth_1, q1, q2, Option.bind_some, toBool_bool, Bool.not_true, iff_false']
end
theorem law {p : PV} (h : WfT Try.prog 24 p) {R : List Int} (hq : WfT Try.prog 22 (words R)) (hR2 : ∀ w, w ∈ R → i64 w) : Rn 3 [p, words R] [.bool true] := by
  have hl := wordsLen R
  by_cases hbig : R.length ≤ 1048576
  rotate_left
  · refine Is.of e3 (Evt.all fun n => ?_)
    have c1 : gtI (R.length : Int) 1048576 = true := gtT (by omega)
    simp only [F3, nth_1, toList_list, hl, c1, iff_true']
  have c0 : gtI (R.length : Int) 1048576 = false := gtF (by omega)
  have hsz := sz_6 h (x := 1048576) (by omega) (by omega)
  by_cases hneg : szR 1048576 p.wt < 0
  · refine Is.of e3 (hsz.mp fun n h1 => ?_)
    simp only [F3, nth_0, nth_1, toList_list, hl, c0, iff_false', h1, Option.bind_some, toInt_int, ltT hneg, iff_true']
  have hw : p.wt ≤ 1048576 := by have := mt (szR_neg (x := 1048576) (w := p.wt) (by omega)).2 hneg; omega
  have hqw : (words R).wt = R.length := by simp [wts_zero (l := R.map PV.int) (by intro q hq; obtain ⟨w, _, rfl⟩ := List.mem_map.1 hq; simp)]
  have hto := to_8 h hw
  have htq := to_9 hq (by rw [hqw]; exact hbig)
  have heqa := eq_11 h
  have heqb := eq_12 hq
  have hcn := sn24_le h
  have hcq := cn_22 hq
  rw [hqw] at hcq
  obtain ⟨m1, _, hmk⟩ := mark_13 h (k := 1) (by omega) (by omega)
  obtain ⟨m2, _, hmq⟩ := mark_14 hq (k := 1 + sn24 p) (by omega) (by omega)
  obtain ⟨W, half, base, next, e, hW, hW2, h0⟩ : ∃ W half base next, p = heapV W half base next ∧ W.length ≤ 1048576 ∧ (∀ w, w ∈ W → i64 w) ∧ (i64 half ∧ i64 base ∧ i64 next) := by
    obtain ⟨y0, half, base, next, rfl, g0, g1, g2, g3⟩ := wf24 h
    simp at hw
    obtain ⟨W, rfl, hW, hW2⟩ := wordsOf g0 (by omega)
    exact ⟨W, half, base, next, rfl, hW, hW2, g1, g2, g3⟩
  obtain ⟨A, B, hf, bs, nx, a1, a2, a3, a4, ⟨a5, a6, a7⟩, hi, hs⟩ := both (half := half) (base := base) (next := next) hW hW2 hbig hR2 h0
  rw [← e] at hi hs
  have hg0 : WfT Try.prog 24 (heapV A hf bs nx) := mk24 (wfInts (by omega) a2) a5 a6 a7
  have hg1 : WfT Try.prog 22 (words B) := wfInts (by omega) a4
  have hz : ∀ l : List Int, (words l).wt = l.length := fun l => by simp [wts_zero (l := l.map PV.int) (by intro q hq; obtain ⟨w, _, rfl⟩ := List.mem_map.1 hq; simp)]
  have hw0 : (heapV A hf bs nx).wt = A.length := by
    have := hz A
    simp at this ⊢
    exact this
  have hw1 := hz B
  have heqr := eq_11 hg0
  have heqs := eq_12 hg1
  have hcr := sn24_le hg0
  have hcs := cn_22 hg1
  rw [hw0] at hcr
  rw [hw1] at hcs
  obtain ⟨m3, hm3, hmr⟩ := mark_13 hg0 (k := 1) (by omega) (by omega)
  obtain ⟨m4, hm4, hms⟩ := mark_14 hg1 (k := 1 + sn24 (heapV A hf bs nx)) (by omega) (by omega)
  have hhr := held_15 hg0 (k := 1) (by omega) (by omega) hm3
  have hhs := held_16 hg1 (k := 1 + sn24 (heapV A hf bs nx)) (by omega) (by omega) hm4
  have hge : 0 ≤ szR 1048576 p.wt := Int.not_lt.1 hneg
  have hll : ((words R).toList.length : Int) = R.length := by rw [toList_list, hl]
  generalize sn24 (heapV A hf bs nx) = s3 at *
  generalize heapV A hf bs nx = g0 at *
  generalize words B = g1 at *
  generalize sn24 p = s1 at *
  generalize words R = wr at *
  refine Is.of e3 ((Evt.and ((hsz.and (hto.and htq)).and (heqa.and heqb)) (Evt.and ((hmk.and hmq).and (hi.and hs)) ((heqr.and heqs).and ((hmr.and hms).and (hhr.and hhs))))).mp fun n h1 => ?_)
  obtain ⟨⟨⟨h1, h2, h3⟩, h4, h5⟩, ⟨⟨h6, h7⟩, h8, h9⟩, ⟨h10, h11⟩, ⟨h12, h13⟩, h14, h15⟩ := h1
  simp (disch := omega) [F3, hll, c0, h1, h2, h3, h4, h5, h6, h7, h8, h9, h10, h11, h12, h13, h14, h15, ltF, neF, isB_unit]
theorem pure_law (ps : List PV) (hl : ps.length = 2) (hwf : ∀ (j : Nat) t p, [24, 22][j]? = some t → ps[j]? = some p → WfT Try.prog t p) : ∃ n, ev Try.prog sg n 3 ps = some [.bool true] := by
  obtain ⟨p, q, rfl⟩ : ∃ p q, ps = [p, q] := by
    match ps, hl with
    | [a, b], _ => exact ⟨a, b, rfl⟩
  have hq := hwf 1 22 q rfl rfl
  obtain ⟨l, rfl, hll, he⟩ := wf_slice (e := 3) (by kernel_rfl) hq
  obtain ⟨R, rfl⟩ := words_of fun q hq => by
    obtain ⟨x, e, _⟩ := wf_int (k := .i64) (by kernel_rfl) (he q hq)
    exact ⟨x, e⟩
  refine (law (hwf 0 24 p rfl rfl) hq fun w hm => ?_).get
  obtain ⟨x, e, hx⟩ := wf_int (k := .i64) (by kernel_rfl) (he (.int w) (List.mem_map.2 ⟨w, hm, rfl⟩))
  cases e
  exact wf64 hx
end Go.Proofs.Ythmhgnnaihkjaaa.GFnExactCollect
