/- What functions of the program and of the reference come to, for the law FnExactKin. Each under the conditions that it names. -/
import Derived.Test.YthmhgnnaihkjaaaHFnExactKin
namespace Go.Proofs.Ythmhgnnaihkjaaa.GFnExactKin
open Go Go.Rsc Go.Proofs.Ythmhgnnaihkjaaa
set_option maxRecDepth 100000
set_option linter.unusedVariables false
set_option linter.unusedSimpArgs false
/-! ### Parts of both -/
@[reducible] def rowsV (l : List (List Int)) : PV := .list (l.map ints)
structure Fin (a v : List Int) : Prop where
  len : v.length = a.length
  inc : a.Pairwise (· < ·)
  mem : ∀ x, x ∈ a → gv a v x ∈ a
  le : ∀ x, x ∈ a → gv a v x ≤ x
  fix : ∀ x, x ∈ a → gv a v (gv a v x) = gv a v x
theorem inc_take {a : List Int} (h : a.Pairwise (· < ·)) {i : Nat} (hi : i < a.length) {x : Int} (hx : x ∈ a) (hlt : x < a.getD i 0) : x ∈ a.take i := by
  obtain ⟨k, hk, rfl⟩ := List.getElem_of_mem hx
  have e : a.getD i 0 = a[i] := by simp [List.getD_eq_getElem?_getD, hi]
  rw [e] at hlt
  have hki : k < i := by
    by_cases h1 : k < i
    · exact h1
    · exfalso
      by_cases h2 : k = i
      · subst h2; omega
      · have := List.pairwise_iff_getElem.1 h i k hi hk (by omega)
        omega
  rw [List.mem_iff_getElem]
  exact ⟨k, by rw [List.length_take]; omega, List.getElem_take⟩
theorem take_lt {a : List Int} (h : a.Pairwise (· < ·)) {i : Nat} (hi : i < a.length) {x : Int} (hx : x ∈ a.take i) : x < a.getD i 0 := by
  obtain ⟨k, hk, rfl⟩ := List.getElem_of_mem hx
  rw [List.length_take] at hk
  have e : a.getD i 0 = a[i] := by simp [List.getD_eq_getElem?_getD, hi]
  rw [e, List.getElem_take]
  exact List.pairwise_iff_getElem.1 h k i (by omega) hi (by omega)
theorem at_mem {a : List Int} {i : Nat} (hi : i < a.length) : a.getD i 0 ∈ a := by
  have e : a.getD i 0 = a[i] := by simp [List.getD_eq_getElem?_getD, hi]
  rw [e]; exact List.getElem_mem hi
theorem inc_nodup {a : List Int} (h : a.Pairwise (· < ·)) : a.Nodup := h.imp fun h e => by omega
theorem gv_at : ∀ {a v : List Int} {i : Nat}, a.Nodup → v.length = a.length → i < a.length → gv a v (a.getD i 0) = v.getD i 0
  | [], _, _, _, _, h => by simp at h
  | k :: a, [], _, _, h, _ => by simp at h
  | k :: a, x :: v, 0, _, _, _ => by rw [gv_cons]; simp
  | k :: a, x :: v, i + 1, hn, hv, hi => by
    have h2 := List.nodup_cons.1 hn
    have hi2 : i < a.length := by simpa using hi
    have e1 : (k :: a).getD (i + 1) 0 = a.getD i 0 := by simp
    have e2 : (x :: v).getD (i + 1) 0 = v.getD i 0 := by simp
    have hne : ¬ k = a.getD i 0 := fun e => h2.1 (by rw [e]; exact at_mem hi2)
    rw [e1, e2, gv_cons, if_neg hne]
    exact gv_at h2.2 (by simpa using hv) hi2
section
variable {a v : List Int}
theorem cloI (h : Fin a v) {x q : Int} (hx : x ∈ a) (hq : q ∈ a) (t : List Int) : Rn 50 [ints (x :: t), .list (mpV a v), .int q] [.bool (eqI (gv a v x) (gv a v q)), .list (mpV a v)] := by
  have g1 := mget_mp h.len hx
  have g2 := mget_mp h.len hq
  refine Is.of e50 (Evt.all fun n => ?_)
  have c1 : geI 0 0 = true := rfl
  have c2 : ltI 0 (((x :: t).map PV.int).length : Int) = true := ltT (by simp)
  have e0 : nth ((x :: t).map PV.int) 0 = .int x := rfl
  simp only [F50, nth_0, nth_1, nth_2, toList_list, toInt_int, c1, c2, iff_true', Int.toNat_zero, e0, g1, g2]
theorem idxGo (h : Fin a v) {p : List Int} (hp : p.Pairwise (· < ·)) (hpa : ∀ y, y ∈ p → y ∈ a) (hpl : p.length ≤ 4194304) {q : Int} (hq : q ∈ a) : ∀ (j i : Nat), i + j = (rts (gv a v) p).length → Evt fun n => ∀ m, j + 1 ≤ m →
    loopEv (L49_0 (ev Try.prog sg n) n) m [.int i, .int (rts (gv a v) p).length, rowsV (parts (gv a v) p), .int q, .list (mpV a v)] = if gv a v q ∈ (rts (gv a v) p).drop i then some (.r, [.list (mpV a v), .int ((i + ((rts (gv a v) p).drop i).idxOf (gv a v q) : Nat) : Int)]) else some (.x 0, [.list (mpV a v)]) := by
  have hXl : (rts (gv a v) p).length ≤ p.length := List.length_filter_le _ _
  have hol : ((parts (gv a v) p).map ints).length = (rts (gv a v) p).length := by unfold parts; rw [List.length_map, List.length_map]
  intro j
  induction j with
  | zero =>
    intro i hi
    refine Evt.all fun n m hm => ?_
    obtain ⟨m, rfl⟩ : ∃ m', m = m' + 1 := ⟨m - 1, by omega⟩
    have e : (rts (gv a v) p).drop i = [] := List.drop_eq_nil_iff.2 (by omega)
    have c1 : ltI (i : Int) (rts (gv a v) p).length = false := ltF (by omega)
    have hB : L49_0 (ev Try.prog sg n) n [.int i, .int (rts (gv a v) p).length, rowsV (parts (gv a v) p), .int q, .list (mpV a v)] = some (.x 0, [.list (mpV a v)]) := by
      simp only [L49_0, nth_0, nth_1, nth_4, toInt_int, c1, iff_false']
    simp only [loopEv, hB, thenN_x, passE_eq, e]
    rfl
  | succ j ih =>
    intro i hi
    have hlt : i < (rts (gv a v) p).length := by omega
    have hd := drop_ints hlt
    have hyX := at_mem hlt
    have hno : nth ((parts (gv a v) p).map ints) i = ints (grp (gv a v) p ((rts (gv a v) p).getD i 0)) := by
      unfold parts
      simp [nth, List.getD_eq_getElem?_getD, hlt]
    generalize (rts (gv a v) p).getD i 0 = y at hd hyX hno
    obtain ⟨hyp, hyr⟩ := mem_rts.1 hyX
    obtain ⟨t, ht⟩ := head_grp hp (fun y hy => h.le y (hpa y hy)) hyp hyr
    rw [ht] at hno
    have hcl := cloI h (hpa y hyp) hq t
    rw [hyr] at hcl
    have c1 : ltI (i : Int) (rts (gv a v) p).length = true := ltT (by omega)
    have c2 : geI (i : Int) 0 = true := geT (by omega)
    have hk : ((i : Int)).toNat = i := by omega
    have w1 : IntKind.i64.wrap ((i : Int) + 1) = ((i + 1 : Nat) : Int) := by rw [wrap64 (by omega) (by omega)]; omega
    rw [hd]
    by_cases e : y = gv a v q
    · rw [eqT e] at hcl
      refine hcl.mp fun n q1 m hm => ?_
      obtain ⟨m, rfl⟩ : ∃ m', m = m' + 1 := ⟨m - 1, by omega⟩
      have hB : L49_0 (ev Try.prog sg n) n [.int i, .int (rts (gv a v) p).length, rowsV (parts (gv a v) p), .int q, .list (mpV a v)] = some (.r, [.list (mpV a v), .int i]) := by
        simp only [L49_0, nth_0, nth_1, nth_2, nth_3, nth_4, toInt_int, toList_list, hol, c1, c2, iff_true', hk, hno, q1, Option.bind_some, toBool_bool]
      rw [if_pos (by rw [e]; simp), e]
      simp only [loopEv, hB, List.idxOf_cons_self, Nat.add_zero]
      rfl
    · rw [eqF e] at hcl
      refine hcl.mp2 (ih (i + 1) (by omega)) fun n q1 q2 m hm => ?_
      obtain ⟨m, rfl⟩ : ∃ m', m = m' + 1 := ⟨m - 1, by omega⟩
      have hB : L49_0 (ev Try.prog sg n) n [.int i, .int (rts (gv a v) p).length, rowsV (parts (gv a v) p), .int q, .list (mpV a v)] = some (.n, [.int (i + 1 : Nat), .int (rts (gv a v) p).length, rowsV (parts (gv a v) p), .int q, .list (mpV a v)]) := by
        simp only [L49_0, nth_0, nth_1, nth_2, nth_3, nth_4, toInt_int, toList_list, hol, c1, c2, iff_true', hk, hno, q1, Option.bind_some, toBool_bool, iff_false', w1]
      simp only [loopEv, hB, thenN_n]
      rw [q2 m (by omega)]
      have e3 : (y == gv a v q) = false := by simpa using e
      by_cases hm2 : gv a v q ∈ (rts (gv a v) p).drop (i + 1)
      · rw [if_pos hm2, if_pos (List.mem_cons_of_mem _ hm2), List.idxOf_cons, e3]
        simp only [cond_false]
        rw [show i + 1 + ((rts (gv a v) p).drop (i + 1)).idxOf (gv a v q) = i + (((rts (gv a v) p).drop (i + 1)).idxOf (gv a v q) + 1) by omega]
      · rw [if_neg hm2, if_neg (by rw [List.mem_cons]; rintro (h | h); exact e h.symm; exact hm2 h)]
theorem idxI (h : Fin a v) {p : List Int} (hp : p.Pairwise (· < ·)) (hpa : ∀ y, y ∈ p → y ∈ a) (hpl : p.length ≤ 4194304) {q : Int} (hq : q ∈ a) : Rn 49 [rowsV (parts (gv a v) p), .list (mpV a v), .int q] [.int (if gv a v q ∈ rts (gv a v) p then ((rts (gv a v) p).idxOf (gv a v q) : Int) else -1), .list (mpV a v)] := by
  have hol : ((parts (gv a v) p).map ints).length = (rts (gv a v) p).length := by unfold parts; rw [List.length_map, List.length_map]
  refine Is.of e49 ((idxGo h hp hpa hpl hq (rts (gv a v) p).length 0 (by omega)).mp2 (Evt.ge ((rts (gv a v) p).length + 1)) fun n q1 q2 => ?_)
  have q1' : loopEv (L49_0 (ev Try.prog sg n) n) n [.int 0, .int (rts (gv a v) p).length, rowsV (parts (gv a v) p), .int q, .list (mpV a v)] = _ := q1 n q2
  rw [List.drop_zero] at q1'
  by_cases hm : gv a v q ∈ rts (gv a v) p
  · rw [if_pos hm] at q1' ⊢
    simp only [F49, nth_0, nth_1, nth_2, toList_list, hol, q1', thenE_some, Nat.zero_add]
    rfl
  · rw [if_neg hm] at q1' ⊢
    simp only [F49, nth_0, nth_1, nth_2, toList_list, hol, q1', thenE_some, passB_same, thenN_n]
theorem grp_len (r : Int → Int) (p : List Int) (x : Int) : (grp r p x).length ≤ p.length := List.length_filter_le _ _
theorem partsI (h : Fin a v) (hal : a.length ≤ 4194304) : Evt fun n => loopEv (L20_4 (ev Try.prog sg n) n) n [.int 0, .int a.length, .list [], ints a, .list (mpV a v)] = some (.x 8, [rowsV (parts (gv a v) a)]) := by
  have hrl := ints_len a
  have h1 := loop_run (body := fun m => L20_4 (ev Try.prog sg m) m) (fun i => [.int i, .int a.length, rowsV (parts (gv a v) (a.take i)), ints a, .list (mpV a v)]) a.length (e := .x 8) (res := [rowsV (parts (gv a v) a)]) (fun i hi => ?_) (Evt.all fun m => ?_) (by decide)
  · exact h1
  · have hn := nth_ints hi
    have c1 : ltI (i : Int) a.length = true := ltT (by omega)
    have c2 : geI (i : Int) 0 = true := geT (by omega)
    have hk : ((i : Int)).toNat = i := by omega
    have w1 : IntKind.i64.wrap ((i : Int) + 1) = ((i + 1 : Nat) : Int) := by rw [wrap64 (by omega) (by omega)]; omega
    have hq := at_mem hi
    have hpl : (a.take i).length ≤ 4194304 := by rw [List.length_take]; omega
    have hpi : (a.take i).Pairwise (· < ·) := h.inc.sublist (List.take_sublist _ _)
    have hix := idxI h hpi (fun y hy => List.mem_of_mem_take hy) hpl hq
    have hXl : (rts (gv a v) (a.take i)).length ≤ (a.take i).length := List.length_filter_le _ _
    have hol : ((parts (gv a v) (a.take i)).map ints).length = (rts (gv a v) (a.take i)).length := by unfold parts; rw [List.length_map, List.length_map]
    have htl : ∀ y, y ∈ a.take i → y < a.getD i 0 := fun y hy => take_lt h.inc hi hy
    have hti : ∀ y, y ∈ a → y < a.getD i 0 → y ∈ a.take i := fun y hy hl => inc_take h.inc hi hy hl
    rw [take_snoc (d := 0) hi]
    generalize a.getD i 0 = q at *
    by_cases hr : gv a v q = q
    · have hnm : gv a v q ∉ rts (gv a v) (a.take i) := fun hm => by have := htl _ (mem_rts.1 hm).1; omega
      rw [if_neg hnm] at hix
      rw [parts_new htl (fun y hy => h.le y (List.mem_of_mem_take hy)) hr]
      have d1 : ltI (-1) 0 = true := rfl
      have c3 : leN (((parts (gv a v) (a.take i)).map ints).length + [PV.list [PV.int q]].length) 5864062014805 = true := leNT (by rw [hol]; simp; omega)
      have e : rowsV (parts (gv a v) (a.take i) ++ [[q]]) = .list ((parts (gv a v) (a.take i)).map ints ++ [.list [.int q]]) := by simp
      rw [e]
      refine hix.mp fun n q1 => ?_
      simp only [L20_4, nth_0, nth_1, nth_2, nth_3, nth_4, toInt_int, toList_list, hrl, c1, c2, iff_true', hk, hn, q1, Option.bind_some, d1, c3, thenN_n, w1]
    · have hlt : gv a v q < q := by have := h.le q hq; omega
      have hin := hti _ (h.mem q hq) hlt
      have hm : gv a v q ∈ rts (gv a v) (a.take i) := mem_rts.2 ⟨hin, h.fix q hq⟩
      rw [if_pos hm] at hix
      rw [parts_old (inc_nodup hpi) hr]
      have hb := List.idxOf_lt_length_of_mem hm
      have hno : nth ((parts (gv a v) (a.take i)).map ints) ((rts (gv a v) (a.take i)).idxOf (gv a v q)) = ints (grp (gv a v) (a.take i) (gv a v q)) := by
        unfold parts
        simp [nth, List.getD_eq_getElem?_getD, hb]
      have hgl := grp_len (gv a v) (a.take i) (gv a v q)
      have d1 : ltI (((rts (gv a v) (a.take i)).idxOf (gv a v q) : Nat) : Int) 0 = false := ltF (by omega)
      have d2 : geI (((rts (gv a v) (a.take i)).idxOf (gv a v q) : Nat) : Int) 0 = true := geT (by omega)
      have d3 : ltI (((rts (gv a v) (a.take i)).idxOf (gv a v q) : Nat) : Int) (rts (gv a v) (a.take i)).length = true := ltT (by omega)
      have d4 : eqI (((rts (gv a v) (a.take i)).idxOf (gv a v q) : Nat) : Int) (((rts (gv a v) (a.take i)).idxOf (gv a v q) : Nat) : Int) = true := eqT rfl
      have k2 : (((rts (gv a v) (a.take i)).idxOf (gv a v q) : Nat) : Int).toNat = (rts (gv a v) (a.take i)).idxOf (gv a v q) := by omega
      have c3 : leN (((grp (gv a v) (a.take i) (gv a v q)).map PV.int).length + [PV.int q].length) 17592186044416 = true := leNT (by rw [ints_len]; simp; omega)
      have e : rowsV ((parts (gv a v) (a.take i)).set ((rts (gv a v) (a.take i)).idxOf (gv a v q)) (grp (gv a v) (a.take i) (gv a v q) ++ [q])) = .list (((parts (gv a v) (a.take i)).map ints).set ((rts (gv a v) (a.take i)).idxOf (gv a v q)) (.list ((grp (gv a v) (a.take i) (gv a v q)).map PV.int ++ [.int q]))) := by
        show PV.list (((parts (gv a v) (a.take i)).set ((rts (gv a v) (a.take i)).idxOf (gv a v q)) (grp (gv a v) (a.take i) (gv a v q) ++ [q])).map ints) = _
        have e1 : ints (grp (gv a v) (a.take i) (gv a v q) ++ [q]) = .list ((grp (gv a v) (a.take i) (gv a v q)).map PV.int ++ [.int q]) := by
          show PV.list ((grp (gv a v) (a.take i) (gv a v q) ++ [q]).map PV.int) = _
          rw [List.map_append]; rfl
        rw [List.map_set, e1]
      rw [e]
      refine hix.mp fun n q1 => ?_
      simp only [L20_4, nth_0, nth_1, nth_2, nth_3, nth_4, toInt_int, toList_list, hrl, c1, c2, iff_true', hk, hn, q1, Option.bind_some, d1, iff_false', d2, d3, d4, hol, hno, k2, c3, thenN_n, w1]
  · have c1 : ltI (a.length : Int) a.length = false := ltF (by omega)
    rw [List.take_length]
    simp only [L20_4, nth_0, nth_1, nth_2, toInt_int, c1, iff_false']
theorem oneS (h : Fin a v) (hal : a.length ≤ 4194304) {i : Nat} (hi : i < a.length) (out : PV) : Evt fun n => loopEv (L18_3 (ev Try.prog sg n) n) n [.int 0, out, .list [], .int i, ints v, ints a] = some (.x 8, [out, ints (grp (gv a v) a (a.getD i 0)), .int i, ints v, ints a]) := by
  have hrl := ints_len a
  have hvl := ints_len v
  have hv := h.len
  have h1 := loop_run (body := fun m => L18_3 (ev Try.prog sg m) m) (fun k => [.int k, out, ints (grp (gv a v) (a.take k) (a.getD i 0)), .int i, ints v, ints a]) a.length (e := .x 8) (res := [out, ints (grp (gv a v) a (a.getD i 0)), .int i, ints v, ints a]) (fun k hk => Evt.all fun m => ?_) (Evt.all fun m => ?_) (by decide)
  · exact h1
  · have hn := nth_ints hk
    have hn2 := nth_ints hi
    have hn3 := nth_ints (R := v) (i := k) (by omega)
    have hg := gv_at (inc_nodup h.inc) hv hk
    have c1 : ltI (k : Int) a.length = true := ltT (by omega)
    have c2 : geI (k : Int) 0 = true := geT (by omega)
    have c3 : ltI (k : Int) v.length = true := ltT (by omega)
    have c4 : geI (i : Int) 0 = true := geT (by omega)
    have c5 : ltI (i : Int) a.length = true := ltT (by omega)
    have hkk : ((k : Int)).toNat = k := by omega
    have hki : ((i : Int)).toNat = i := by omega
    have w1 : IntKind.i64.wrap ((k : Int) + 1) = ((k + 1 : Nat) : Int) := by rw [wrap64 (by omega) (by omega)]; omega
    have hgl := grp_len (gv a v) (a.take k) (a.getD i 0)
    have hgl : (grp (gv a v) (a.take k) (a.getD i 0)).length ≤ k := Nat.le_trans hgl (by rw [List.length_take]; omega)
    rw [take_snoc (d := 0) hk, grp_snoc]
    by_cases e : gv a v (a.getD k 0) = a.getD i 0
    · rw [if_pos e]
      rw [hg] at e
      have d1 : eqI (v.getD k 0) (a.getD i 0) = true := eqT e
      have c6 : leN (((grp (gv a v) (a.take k) (a.getD i 0)).map PV.int).length + [PV.int (a.getD k 0)].length) 17592186044416 = true := leNT (by rw [ints_len, List.length_singleton]; omega)
      have e0 : ints (grp (gv a v) (a.take k) (a.getD i 0) ++ [a.getD k 0]) = .list ((grp (gv a v) (a.take k) (a.getD i 0)).map PV.int ++ [.int (a.getD k 0)]) := by simp
      rw [e0]
      simp only [L18_3, nth_0, nth_1, nth_2, nth_3, nth_4, nth_5, toInt_int, toList_list, hrl, hvl, c1, c2, c3, c4, c5, iff_true', hkk, hki, hn, hn2, hn3, d1, c6, thenN_n, w1]
    · rw [if_neg e, List.append_nil]
      rw [hg] at e
      have d1 : eqI (v.getD k 0) (a.getD i 0) = false := eqF e
      simp only [L18_3, nth_0, nth_1, nth_2, nth_3, nth_4, nth_5, toInt_int, toList_list, hrl, hvl, c1, c2, c3, c4, c5, iff_true', iff_false', hkk, hki, hn2, hn3, d1, thenN_n, w1]
  · have c1 : ltI (a.length : Int) a.length = false := ltF (by omega)
    rw [List.take_length]
    simp only [L18_3, nth_0, nth_1, nth_2, nth_3, nth_4, nth_5, toInt_int, toList_list, hrl, c1, iff_false']
theorem partsS (h : Fin a v) (hal : a.length ≤ 4194304) : Evt fun n => loopEv (L18_4 (ev Try.prog sg n) n) n [.int 0, ints v, ints a, .list []] = some (.x 6, [rowsV (parts (gv a v) a)]) := by
  have hrl := ints_len a
  have hvl := ints_len v
  have hv := h.len
  have h1 := loop_run (body := fun m => L18_4 (ev Try.prog sg m) m) (fun i => [.int i, ints v, ints a, rowsV ((rts (gv a v) (a.take i)).map (grp (gv a v) a))]) a.length (e := .x 6) (res := [rowsV (parts (gv a v) a)]) (fun i hi => ?_) (Evt.all fun m => ?_) (by decide)
  · exact h1
  · have hn := nth_ints hi
    have hn3 := nth_ints (R := v) (i := i) (by omega)
    have hg := gv_at (inc_nodup h.inc) hv hi
    have c1 : ltI (i : Int) a.length = true := ltT (by omega)
    have c2 : geI (i : Int) 0 = true := geT (by omega)
    have c3 : ltI (i : Int) v.length = true := ltT (by omega)
    have hk : ((i : Int)).toNat = i := by omega
    have w1 : IntKind.i64.wrap ((i : Int) + 1) = ((i + 1 : Nat) : Int) := by rw [wrap64 (by omega) (by omega)]; omega
    have hXl : (rts (gv a v) (a.take i)).length ≤ (a.take i).length := List.length_filter_le _ _
    have hXl : (rts (gv a v) (a.take i)).length ≤ i := Nat.le_trans hXl (by rw [List.length_take]; omega)
    rw [take_snoc (d := 0) hi, rts_snoc]
    by_cases e : gv a v (a.getD i 0) = a.getD i 0
    · rw [if_pos e]
      rw [hg] at e
      have d1 : neI (v.getD i 0) (a.getD i 0) = false := neF e
      have hone := oneS h hal hi (rowsV ((rts (gv a v) (a.take i)).map (grp (gv a v) a)))
      have c6 : leN ((((rts (gv a v) (a.take i)).map (grp (gv a v) a)).map ints).length + [ints (grp (gv a v) a (a.getD i 0))].length) 5864062014805 = true := leNT (by rw [List.length_map, List.length_map]; simp; omega)
      have e0 : rowsV ((rts (gv a v) (a.take i) ++ [a.getD i 0]).map (grp (gv a v) a)) = .list (((rts (gv a v) (a.take i)).map (grp (gv a v) a)).map ints ++ [ints (grp (gv a v) a (a.getD i 0))]) := by simp
      rw [e0]
      refine hone.mp fun n q1 => ?_
      simp only [L18_4, nth_0, nth_1, nth_2, nth_3, nth_4, toInt_int, toList_list, hrl, hvl, c1, c2, c3, iff_true', iff_false', hk, hn, hn3, d1, q1, thenE_some, passB_same, thenN_n, c6, w1]
    · rw [if_neg e, List.append_nil]
      rw [hg] at e
      have d1 : neI (v.getD i 0) (a.getD i 0) = true := neT e
      refine Evt.all fun n => ?_
      simp only [L18_4, nth_0, nth_1, nth_2, nth_3, toInt_int, toList_list, hrl, hvl, c1, c2, c3, iff_true', hk, hn, hn3, d1, thenN_n, w1]
  · have c1 : ltI (a.length : Int) a.length = false := ltF (by omega)
    rw [List.take_length]
    simp only [L18_4, nth_0, nth_1, nth_2, nth_3, toInt_int, toList_list, hrl, c1, iff_false']
    rfl
end
end Go.Proofs.Ythmhgnnaihkjaaa.GFnExactKin
