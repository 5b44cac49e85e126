/- What functions of the program and of the reference come to, for the law FnExactShape. Each under the conditions that it names. -/
import Derived.Test.YthmhgnnaihkjaaaDoorEFnExactShape
namespace Go.Proofs.YthmhgnnaihkjaaaDoor.GFnExactShape
open Go Go.Rsc Go.Proofs.YthmhgnnaihkjaaaDoor
set_option maxRecDepth 100000
set_option linter.unusedVariables false
set_option linter.unusedSimpArgs false
theorem bfs_ok {W : List Int} {half base next : Int} {P : List Nat} (h : SOk W half base next P) : ∀ (d i : Nat) (was : List Nat), P.length ≤ i + d → Way P was → i ≤ was.length → (∀ q, q ∈ was.take i → ∀ x, x ∈ kids W q → inW was x) →
    Way P (bfs W d i was) ∧ (∀ q, q ∈ bfs W d i was → ∀ x, x ∈ kids W q → inW (bfs W d i was) x) ∧ ∀ x, inW was x → inW (bfs W d i was) x := by
  intro d
  induction d with
  | zero =>
    intro i was h1 hw hi hc
    have hl := len_sub hw.nodup hw.sub
    have e : i = was.length := by omega
    exact ⟨hw, fun q hq => hc q (by rw [e, List.take_length]; exact hq), fun x hx => hx⟩
  | succ d ih =>
    intro i was h1 hw hi hc
    by_cases hlt : i < was.length
    rotate_left
    · have e : i = was.length := by omega
      have eb : bfs W (d + 1) i was = was := by simp [bfs, hlt]
      rw [eb]
      exact ⟨hw, fun q hq => hc q (by rw [e, List.take_length]; exact hq), fun x hx => hx⟩
    have eb : bfs W (d + 1) i was = bfs W d (i + 1) (addAll was (kids W (gp was i))) := by simp [bfs, hlt]
    rw [eb]
    generalize hp : gp was i = p at *
    have hpP : p ∈ P := hw.sub p (hp ▸ gp_mem hlt)
    have hw2 : Way P (addAll was (kids W p)) := addAll_way hw (h.kid p hpP)
    obtain ⟨nl, hnl⟩ := addAll_ext (kids W p) was
    have htk : (addAll was (kids W p)).take i = was.take i := by rw [hnl, List.take_append_of_le_length (by omega)]
    have hgp : gp (addAll was (kids W p)) i = p := by
      rw [hnl, ← hp]
      simp [gp, List.getD_eq_getElem?_getD, List.getElem?_append_left hlt]
    have hlt2 : i < (addAll was (kids W p)).length := by rw [hnl]; simp; omega
    have htk1 : (addAll was (kids W p)).take (i + 1) = was.take i ++ [p] := by rw [take_gp hlt2, htk, hgp]
    obtain ⟨p1, p2, p3⟩ := ih (i + 1) (addAll was (kids W p)) (by omega) hw2 (by omega) (fun q hq x hx => by
      rw [htk1] at hq
      rcases List.mem_append.1 hq with hq | hq
      · exact inW_all (hc q hq x hx)
      · rw [List.mem_singleton.1 hq] at hx
        exact addAll_in hx)
    exact ⟨p1, p2, fun x hx => p3 x (inW_all hx)⟩
theorem fin_ok {W R : List Int} {half base next : Int} {P : List Nat} (h : SOk W half base next P) (hR : ∀ x, x ∈ R → there P x = true) :
    Way P (bfs W P.length 0 (addAll [] R)) ∧ (∀ q, q ∈ bfs W P.length 0 (addAll [] R) → ∀ x, x ∈ kids W q → inW (bfs W P.length 0 (addAll [] R)) x) ∧ (∀ x, x ∈ R → inW (bfs W P.length 0 (addAll [] R)) x) ∧ (bfs W P.length 0 (addAll [] R)).length ≤ 3000 := by
  obtain ⟨p1, p2, p3⟩ := bfs_ok h P.length 0 (addAll [] R) (by omega) (addAll_way ⟨List.nodup_nil, by simp⟩ hR) (by omega) (by simp)
  have := len_sub p1.nodup p1.sub
  have := h.plen
  exact ⟨p1, p2, fun x hx => p3 x (addAll_in hx), by omega⟩
theorem both {W R : List Int} {half base next : Int} (hW : W.length ≤ 1048576) (hW2 : ∀ w, w ∈ W → i64 w) (hR : R.length ≤ 1048576) (hR2 : ∀ w, w ∈ R → i64 w) :
    ∃ s, Rn 16 [heapV W half base next, words R] [.str s] ∧ Rn 13 [heapV W half base next, words R] [.str s] := by
  have ri := rootsI (half := half) (base := base) (next := next) hW hR
  have rs := rightS (half := half) (base := base) (next := next) hW hW2 hR
  have er : (heapB W half base next && allP (plcs W base next) R) = rootsB W half base next R := rfl
  rw [er] at rs
  cases hc : rootsB W half base next R with
  | false =>
    rw [hc] at ri rs
    refine ⟨⟨#[]⟩, Is.of e16 (ri.mp fun n q => ?_), Is.of e13 (rs.mp fun n q => ?_)⟩
    · simp only [F16, nth_0, nth_1, q, Option.bind_some, toBool_bool, Bool.not_false, iff_true']
    · simp only [F13, nth_0, nth_1, q, Option.bind_some, toBool_bool, Bool.not_false, iff_true']
  | true =>
    have hcc := hc
    simp only [rootsB, Bool.and_eq_true] at hcc
    have hs := sok hcc.1
    have hRP : ∀ x, x ∈ R → there (plcs W base next) x = true := List.all_eq_true.1 hcc.2
    obtain ⟨f1, f2, f3, f4⟩ := fin_ok hs hRP
    rw [hc] at rs
    exact ⟨_, shapeI hs hW hW2 hRP hR2 hR rfl f1 f4 f2 f3 hc, shapeS hs hW hW2 hRP hR2 hR rfl f1 f4 f2 f3 rs⟩
theorem law {p : PV} (h : WfT Tryd.prog 35 p) {R : List Int} (hq : WfT Tryd.prog 33 (words R)) (hR2 : ∀ w, w ∈ R → i64 w) : Rn 4 [p, words R] [.bool true] := by
  have hl := wordsLen R
  by_cases hbig : R.length ≤ 1048576
  rotate_left
  · refine Is.of e4 (Evt.all fun n => ?_)
    have c1 : gtI (R.length : Int) 1048576 = true := gtT (by omega)
    simp only [F4, nth_1, toList_list, hl, c1, iff_true']
  have c0 : gtI (R.length : Int) 1048576 = false := gtF (by omega)
  have hsz := sz_12 h (x := 1048576) (by omega) (by omega)
  by_cases hneg : szR 1048576 p.wt < 0
  · refine Is.of e4 (hsz.mp fun n h1 => ?_)
    simp only [F4, nth_0, nth_1, toList_list, hl, c0, iff_false', h1, Option.bind_some, toInt_int, ltT hneg, iff_true']
  have hw : p.wt ≤ 1048576 := by have := mt (szR_neg (x := 1048576) (w := p.wt) (by omega)).2 hneg; omega
  have hqw : (words R).wt = R.length := by simp [wts_zero (l := R.map PV.int) (by intro q hq; obtain ⟨w, _, rfl⟩ := List.mem_map.1 hq; simp)]
  have hto := to_14 h hw
  have htq := to_15 hq (by rw [hqw]; exact hbig)
  have heqa := eq_17 h
  have heqb := eq_18 hq
  obtain ⟨W, half, base, next, e, hW, hW2⟩ : ∃ W half base next, p = heapV W half base next ∧ W.length ≤ 1048576 ∧ (∀ w, w ∈ W → i64 w) := by
    obtain ⟨y0, half, base, next, rfl, g0, g1, g2, g3⟩ := wf35 h
    simp at hw
    obtain ⟨W, rfl, hW, hW2⟩ := wordsOf g0 (by omega)
    exact ⟨W, half, base, next, rfl, hW, hW2⟩
  obtain ⟨s, hi, hs⟩ := both (half := half) (base := base) (next := next) hW hW2 hbig hR2
  rw [← e] at hi hs
  have hge : 0 ≤ szR 1048576 p.wt := Int.not_lt.1 hneg
  have hll : ((words R).toList.length : Int) = R.length := by rw [toList_list, hl]
  generalize words R = wr at *
  refine Is.of e4 ((Evt.and ((hsz.and (hto.and htq)).and (heqa.and heqb)) (hi.and hs)).mp fun n h1 => ?_)
  obtain ⟨⟨⟨h1, h2, h3⟩, h4, h5⟩, h8, h9⟩ := h1
  simp (disch := omega) [F4, hll, c0, h1, h2, h3, h4, h5, h8, h9, ltF]
theorem pure_law (ps : List PV) (hl : ps.length = 2) (hwf : ∀ (j : Nat) t p, [35, 33][j]? = some t → ps[j]? = some p → WfT Tryd.prog t p) : ∃ n, ev Tryd.prog sg n 4 ps = some [.bool true] := by
  obtain ⟨p, q, rfl⟩ : ∃ p q, ps = [p, q] := by
    match ps, hl with
    | [a, b], _ => exact ⟨a, b, rfl⟩
  have hq := hwf 1 33 q rfl rfl
  obtain ⟨l, rfl, hll, he⟩ := wf_slice (e := 3) (by kernel_rfl) hq
  obtain ⟨R, rfl⟩ := words_of fun q hq => by
    obtain ⟨x, e, _⟩ := wf_int (k := .i64) (by kernel_rfl) (he q hq)
    exact ⟨x, e⟩
  refine (law (hwf 0 35 p rfl rfl) hq fun w hm => ?_).get
  obtain ⟨x, e, hx⟩ := wf_int (k := .i64) (by kernel_rfl) (he (.int w) (List.mem_map.2 ⟨w, hm, rfl⟩))
  cases e
  exact wf64 hx
end Go.Proofs.YthmhgnnaihkjaaaDoor.GFnExactShape
