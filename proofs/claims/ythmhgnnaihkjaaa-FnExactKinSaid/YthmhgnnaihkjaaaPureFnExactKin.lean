/- What functions of the program and of the reference come to, for the law FnExactKin. Each under the conditions that it names. -/
import Derived.Test.YthmhgnnaihkjaaaIFnExactKin
namespace Go.Proofs.Ythmhgnnaihkjaaa.GFnExactKin
open Go Go.Rsc Go.Proofs.Ythmhgnnaihkjaaa
set_option maxRecDepth 100000
set_option linter.unusedVariables false
set_option linter.unusedSimpArgs false
theorem ind_le {X : List Int} (hX : X.Nodup) (z : Int) : (X.map fun x => if z = x then 1 else 0).sum ≤ 1 := by
  induction X with
  | nil => simp
  | cons x X ih =>
    have h2 := List.nodup_cons.1 hX
    rw [List.map_cons, List.sum_cons]
    by_cases e : z = x
    · subst e
      have : (X.map fun x => if z = x then 1 else 0).sum = 0 := by
        clear ih
        have h3 := h2.1
        clear h2 hX
        induction X with
        | nil => rfl
        | cons y X ih =>
          rw [List.map_cons, List.sum_cons, if_neg fun e => h3 (by simp [e]), ih fun h => h3 (by simp [h])]
      rw [this, if_pos rfl]
      omega
    · rw [if_neg e]
      have := ih h2.2
      omega
theorem grp_sum (r : Int → Int) {X : List Int} (hX : X.Nodup) : ∀ p : List Int, (X.map fun x => (grp r p x).length).sum ≤ p.length
  | [] => by
    have : (X.map fun x => (grp r [] x).length).sum = 0 := by
      clear hX
      induction X with
      | nil => rfl
      | cons x X ih => rw [List.map_cons, List.sum_cons, ih]; rfl
    rw [this]; simp
  | y :: p => by
    have ih := grp_sum r hX p
    have h1 := ind_le hX (r y)
    have e : (X.map fun x => (grp r (y :: p) x).length).sum = (X.map fun x => (grp r p x).length).sum + (X.map fun x => if r y = x then 1 else 0).sum := by
      clear ih h1 hX
      induction X with
      | nil => rfl
      | cons x X ih =>
        simp only [List.map_cons, List.sum_cons, ih]
        have : (grp r (y :: p) x).length = (grp r p x).length + if r y = x then 1 else 0 := by
          unfold grp
          rw [List.filter_cons]
          by_cases h : r y = x <;> simp [h]
        omega
    rw [e, List.length_cons]
    omega
theorem isB_unit (b : Bool) : PV.isB .unit b = false := rfl
theorem refs_of : ∀ {l : List PV}, (∀ q, q ∈ l → ∃ x y : Int, q = .agg [.int x, .int y]) → ∃ rs : List (Int × Int), l = rs.map rp
  | [], _ => ⟨[], rfl⟩
  | q :: l, h => by
    obtain ⟨x, y, rfl⟩ := h q (by simp)
    obtain ⟨rs, rfl⟩ := refs_of (l := l) fun q hq => h q (by simp [hq])
    exact ⟨(x, y) :: rs, rfl⟩
def i64 (x : Int) : Prop := -9223372036854775808 ≤ x ∧ x < 9223372036854775808
/-- Both Kin give the same parts. -/
theorem kinIS {rs : List (Int × Int)} (hl : rs.length ≤ 1048576) : ∃ v, Fin (atsL (flat rs)) v ∧ Rn 20 [refsV rs] [rowsV (parts (gv (atsL (flat rs)) v) (atsL (flat rs)))] ∧ Rn 18 [refsV rs] [rowsV (parts (gv (atsL (flat rs)) v) (atsL (flat rs)))] := by
  obtain ⟨hinc, hmem⟩ := atsL_inc (flat rs)
  have hal : (atsL (flat rs)).length ≤ 2097152 := by
    have h1 := atsL_len (flat rs)
    rw [flat_len] at h1
    omega
  have hpl := places_ints (flat rs)
  have hfl : (flat rs).length ≤ 4194304 := by rw [flat_len]; omega
  have sI := atsS hl
  have f0 := flatI hl
  have f1 := delI hfl
  have f2 := sortI (l := posL ((flat rs).map PV.int)) (by have := posL_len ((flat rs).map PV.int); rw [ints_len] at this; omega)
  have f3 := cptI (l := sortL (posL ((flat rs).map PV.int))) (by have := posL_len ((flat rs).map PV.int); rw [ints_len] at this; rw [sortL_len]; omega)
  rw [hpl] at f3
  have hposa : ∀ x, x ∈ atsL (flat rs) → 0 ≤ x := fun x hx => ((hmem x).1 hx).2
  have hin : ∀ r, r ∈ rs → (0 ≤ r.1 → r.1 ∈ atsL (flat rs)) ∧ (0 ≤ r.2 → r.2 ∈ atsL (flat rs)) := fun r hr => ⟨fun h => (hmem _).2 ⟨mem_flat.2 ⟨r, hr, .inl rfl⟩, h⟩, fun h => (hmem _).2 ⟨mem_flat.2 ⟨r, hr, .inr rfl⟩, h⟩⟩
  generalize atsL (flat rs) = a at *
  have hself : ∀ x, x ∈ a → gv a a x = x := by
    intro x hx
    obtain ⟨i, hi, rfl⟩ := List.getElem_of_mem hx
    have := gv_at (v := a) (i := i) (inc_nodup hinc) rfl hi
    have e : a.getD i 0 = a[i] := by simp [List.getD_eq_getElem?_getD, hi]
    rw [e] at this
    exact this
  have hinv : Inv a rs a := ⟨rfl, fun x hx => by rw [hself x hx]; exact hx, fun x hx => by rw [hself x hx]; omega, fun g _ x hx => by rw [hself x hx]⟩
  obtain ⟨v, i1, i2, oI, oS⟩ := rounds (by omega) hposa hin hl (msum a) a (Nat.le_refl _) hinv
  have hfin : Fin a v := ⟨i1.len, hinc, i1.mem, i1.le, fun x hx => fix_root i1 i2 hx⟩
  have mI := mapI (inc_nodup hinc) (by omega) (refsV rs)
  have pI := partsI hfin (by omega)
  have pS := partsS hfin (by omega)
  have hal2 := ints_len a
  have hrl := refs_len rs
  refine ⟨v, hfin, Is.of e20 ((Evt.and (f0.and (f1.and (f2.and f3))) (mI.and (oI.and (pI.and (Evt.ge (msum a + 2)))))).mp fun n h => ?_), Is.of e18 ((sI.and (oS.and (pS.and (Evt.ge (msum a + 2))))).mp fun n h => ?_)⟩
  · obtain ⟨⟨q0, q1, q2, q3⟩, q4, q5, q6, q7⟩ := h
    simp only [F20, nth_0, nth_1, nth_2, toList_list, hrl, q0, thenE_some, passB_same, thenN_n, q1, q2, q3, Option.bind_some, hal2, q4, q5 n q7, q6]
  · obtain ⟨q0, q1, q2, q3⟩ := h
    have c1 : leN (([] : List PV).length + (a.map PV.int).length) 17592186044416 = true := leNT (by rw [hal2, List.length_nil]; omega)
    simp only [F18, nth_0, nth_1, nth_2, toList_list, q0, thenE_some, passB_same, thenN_n, List.nil_append, c1, iff_true', q1 n q3, q2]
theorem wfInts {W : List Int} (h1 : W.length ≤ 9223372036854775807) (h : ∀ w, w ∈ W → i64 w) : WfT Try.prog 22 (ints W) := by
  refine .slice (e := 3) (by kernel_rfl) (by have hm : maxLen = 9223372036854775807 := rfl; rw [hm]; simpa using h1) fun q hq => ?_
  obtain ⟨w, hw, rfl⟩ := List.mem_map.1 hq
  exact .int (k := .i64) (by kernel_rfl) (wf_mk64 (h w hw).1 (h w hw).2)
theorem wfRows {L : List (List Int)} (h1 : L.length ≤ 9223372036854775807) (h2 : ∀ l, l ∈ L → l.length ≤ 9223372036854775807) (h : ∀ l, l ∈ L → ∀ w, w ∈ l → i64 w) : WfT Try.prog 38 (rowsV L) := by
  refine .slice (e := 22) (by kernel_rfl) (by have hm : maxLen = 9223372036854775807 := rfl; rw [hm]; simpa using h1) fun q hq => ?_
  obtain ⟨l, hl, rfl⟩ := List.mem_map.1 hq
  exact wfInts (h2 l hl) (h l hl)
theorem ints_wt (l : List Int) : (ints l).wt = l.length := by simp [wts_zero (l := l.map PV.int) (by intro q hq; obtain ⟨w, _, rfl⟩ := List.mem_map.1 hq; simp)]
theorem rows_wt : ∀ L : List (List Int), (rowsV L).wt = L.length + (L.map List.length).sum
  | [] => by simp
  | l :: L => by
    have ih := rows_wt L
    have e := ints_wt l
    simp only [wt_list, List.map_cons, List.length_cons, wts_cons, List.sum_cons, List.length_map] at ih e ⊢
    omega
theorem law {p : PV} (h : WfT Try.prog 36 p) : Rn 4 [p] [.bool true] := by
  have hsz := sz_17 h (x := 1048576) (by omega) (by omega)
  by_cases hneg : szR 1048576 p.wt < 0
  · refine Is.of e4 (hsz.mp fun n h1 => ?_)
    simp only [F4, nth_0, h1, Option.bind_some, toInt_int, ltT hneg, iff_true']
  have hw : p.wt ≤ 1048576 := by have := mt (szR_neg (x := 1048576) (w := p.wt) (by omega)).2 hneg; omega
  have hto := to_19 h hw
  have heqa := eq_22 h
  have hcn := cn_36 h
  obtain ⟨m1, _, hmk⟩ := mark_23 h (k := 1) (by omega) (by omega)
  obtain ⟨rs, e, hrl, hrb⟩ : ∃ rs : List (Int × Int), p = refsV rs ∧ rs.length ≤ 1048576 ∧ ∀ r, r ∈ rs → i64 r.1 ∧ i64 r.2 := by
    obtain ⟨l, rfl, hll, he⟩ := wf_slice (e := 59) (by kernel_rfl) h
    obtain ⟨rs, rfl⟩ := refs_of fun q hq => by
      obtain ⟨x, y, e, _⟩ := wf59 (he q hq)
      exact ⟨x, y, e⟩
    refine ⟨rs, rfl, ?_, fun r hr => ?_⟩
    · simp at hw; omega
    · obtain ⟨x, y, e, h1, h2⟩ := wf59 (he (rp r) (List.mem_map.2 ⟨r, hr, rfl⟩))
      unfold rp at e
      simp only [PV.agg.injEq, List.cons.injEq, PV.int.injEq, and_true] at e
      obtain ⟨rfl, rfl⟩ := e
      exact ⟨h1, h2⟩
  obtain ⟨v, hfin, hi, hs⟩ := kinIS hrl
  obtain ⟨hinc, hmem⟩ := atsL_inc (flat rs)
  have hal : (atsL (flat rs)).length ≤ 2097152 := by
    have h1 := atsL_len (flat rs)
    rw [flat_len] at h1
    omega
  have hab : ∀ x, x ∈ atsL (flat rs) → i64 x := fun x hx => by
    obtain ⟨r, hr, h1 | h1⟩ := mem_flat.1 ((hmem x).1 hx).1
    · rw [h1]; exact (hrb r hr).1
    · rw [h1]; exact (hrb r hr).2
  generalize atsL (flat rs) = a at *
  rw [← e] at hi hs
  have hX : (rts (gv a v) a).Nodup := (inc_nodup hinc).sublist (List.filter_sublist ..)
  have hXl : (rts (gv a v) a).length ≤ a.length := List.length_filter_le _ _
  have hgs := grp_sum (gv a v) hX a
  have hwt : (rowsV (parts (gv a v) a)).wt ≤ 4194304 := by
    rw [rows_wt]
    unfold parts
    rw [List.length_map, List.map_map]
    have : (List.map (List.length ∘ grp (gv a v) a) (rts (gv a v) a)).sum ≤ a.length := hgs
    omega
  have hg1 : WfT Try.prog 38 (rowsV (parts (gv a v) a)) := by
    refine wfRows ?_ (fun l hl => ?_) (fun l hl w hw => ?_)
    · unfold parts; rw [List.length_map]; omega
    · unfold parts at hl
      obtain ⟨x, _, rfl⟩ := List.mem_map.1 hl
      have := grp_len (gv a v) a x
      omega
    · unfold parts at hl
      obtain ⟨x, _, rfl⟩ := List.mem_map.1 hl
      exact hab w (List.mem_filter.1 hw).1
  have heqs := eq_21 hg1
  have hcs := cn_38 hg1
  obtain ⟨m4, hm4, hms⟩ := mark_24 hg1 (k := 1) (by omega) (by omega)
  have hhs := held_25 hg1 (k := 1) (by omega) (by omega) hm4
  have hge : 0 ≤ szR 1048576 p.wt := Int.not_lt.1 hneg
  generalize rowsV (parts (gv a v) a) = g1 at *
  refine Is.of e4 ((Evt.and (hsz.and (hto.and heqa)) (Evt.and (hmk.and (hi.and hs)) (heqs.and (hms.and hhs)))).mp fun n h1 => ?_)
  obtain ⟨⟨h1, h2, h3⟩, ⟨h4, h5, h6⟩, h7, h8, h9⟩ := h1
  simp (disch := omega) [F4, h1, h2, h3, h4, h5, h6, h7, h8, h9, ltF, neF, isB_unit]
theorem pure_law (ps : List PV) (hl : ps.length = 1) (hwf : ∀ (j : Nat) t p, [36][j]? = some t → ps[j]? = some p → WfT Try.prog t p) : ∃ n, ev Try.prog sg n 4 ps = some [.bool true] := by
  obtain ⟨p, rfl⟩ : ∃ p, ps = [p] := by
    match ps, hl with
    | [a], _ => exact ⟨a, rfl⟩
  exact (law (hwf 0 36 p rfl rfl)).get
end Go.Proofs.Ythmhgnnaihkjaaa.GFnExactKin
