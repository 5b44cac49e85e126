/- What functions of the program and of the reference come to, for the law FnExactKin. Each under the conditions that it names. -/
import Derived.Test.YthmhgnnaihkjaaaDFnExactKin
namespace Go.Proofs.Ythmhgnnaihkjaaa.GFnExactKin
open Go Go.Rsc Go.Proofs.Ythmhgnnaihkjaaa
set_option maxRecDepth 100000
set_option linter.unusedVariables false
set_option linter.unusedSimpArgs false
/-! ### The reference -/
theorem insP_len (x : Int) (s : List Int) : (insP x s).length ≤ s.length + 1 := by
  unfold insP insI
  split
  · split
    · omega
    · have h := congrArg List.length (List.takeWhile_append_dropWhile (p := fun z => decide (z < x)) (l := s))
      simp only [List.length_append, List.length_cons] at h ⊢
      omega
  · omega
theorem fold_len : ∀ (f s : List Int), (f.foldl (fun s x => insP x s) s).length ≤ s.length + f.length
  | [], s => by simp
  | x :: f, s => by
    have h1 := fold_len f (insP x s)
    have h2 := insP_len x s
    rw [List.foldl_cons, List.length_cons]
    omega
section
variable {rs : List (Int × Int)}
theorem step0S (hl : rs.length ≤ 1048576) {i : Nat} (hi : i < rs.length) {s : List Int} (hs : s.length ≤ 4194300) : Evt fun n => L18_0 (ev Try.prog sg n) n [.int i, refsV rs, ints s] = some (.n, [.int (i + 1 : Nat), refsV rs, ints (insP (rs.getD i (0, 0)).2 (insP (rs.getD i (0, 0)).1 s))]) := by
  have hrl := refs_len rs
  have hn := nth_rp hi
  have c1 : ltI (i : Int) rs.length = true := ltT (by omega)
  have c2 : geI (i : Int) 0 = true := geT (by omega)
  have hk : ((i : Int)).toNat = i := by omega
  have w1 : IntKind.i64.wrap ((i : Int) + 1) = ((i + 1 : Nat) : Int) := by rw [wrap64 (by omega) (by omega)]; omega
  generalize rs.getD i (0, 0) = r at *
  have l1 := insP_len r.1 s
  have q1 := withS (s := s) (by omega) r.1
  have q2 := withS (s := insP r.1 s) (by omega) r.2
  refine q1.mp2 q2 fun n q1 q2 => ?_
  by_cases n1 : r.1 < 0
  · have d1 : geI r.1 0 = false := geF (by omega)
    have i1 : insP r.1 s = s := by unfold insP; rw [if_neg (by omega)]
    rw [i1] at q2 ⊢
    by_cases n2 : r.2 < 0
    · have d2 : geI r.2 0 = false := geF (by omega)
      have i2 : insP r.2 s = s := by unfold insP; rw [if_neg (by omega)]
      rw [i2]
      simp only [L18_0, nth_0, nth_1, nth_2, toInt_int, toList_list, hrl, c1, c2, iff_true', iff_false', hk, hn, rp0, rp1, d1, d2, thenN_n, w1]
    · have d2 : geI r.2 0 = true := geT (by omega)
      have i2 : insP r.2 s = insI r.2 s := by unfold insP; rw [if_pos (by omega)]
      rw [i2]
      simp only [L18_0, nth_0, nth_1, nth_2, toInt_int, toList_list, hrl, c1, c2, iff_true', iff_false', hk, hn, rp0, rp1, d1, d2, thenN_n, w1, q2, Option.bind_some]
  · have d1 : geI r.1 0 = true := geT (by omega)
    have i1 : insP r.1 s = insI r.1 s := by unfold insP; rw [if_pos (by omega)]
    rw [i1] at q2 ⊢
    by_cases n2 : r.2 < 0
    · have d2 : geI r.2 0 = false := geF (by omega)
      have i2 : insP r.2 (insI r.1 s) = insI r.1 s := by unfold insP; rw [if_neg (by omega)]
      rw [i2]
      simp only [L18_0, nth_0, nth_1, nth_2, toInt_int, toList_list, hrl, c1, c2, iff_true', iff_false', hk, hn, rp0, rp1, d1, d2, thenN_n, w1, q1, Option.bind_some]
    · have d2 : geI r.2 0 = true := geT (by omega)
      have i2 : insP r.2 (insI r.1 s) = insI r.2 (insI r.1 s) := by unfold insP; rw [if_pos (by omega)]
      rw [i2]
      simp only [L18_0, nth_0, nth_1, nth_2, toInt_int, toList_list, hrl, c1, c2, iff_true', iff_false', hk, hn, rp0, rp1, d1, d2, thenN_n, w1, q1, q2, Option.bind_some]
theorem atsS (hl : rs.length ≤ 1048576) : Evt fun n => loopEv (L18_0 (ev Try.prog sg n) n) n [.int 0, refsV rs, .list []] = some (.x 0, [refsV rs, ints (atsL (flat rs))]) := by
  have hrl := refs_len rs
  have h1 := loop_run (body := fun m => L18_0 (ev Try.prog sg m) m) (fun i => [.int i, refsV rs, ints ((flat (rs.take i)).foldl (fun s x => insP x s) [])]) rs.length (e := .x 0) (res := [refsV rs, ints (atsL (flat rs))]) (fun i hi => ?_) (Evt.all fun m => ?_) (by decide)
  · exact h1
  · have hle := fold_len (flat (rs.take i)) []
    rw [flat_len, List.length_take, List.length_nil] at hle
    have := step0S hl hi (s := (flat (rs.take i)).foldl (fun s x => insP x s) []) (by omega)
    rw [flat_snoc hi, List.foldl_append]
    exact this
  · have c1 : ltI (rs.length : Int) rs.length = false := ltF (by omega)
    rw [List.take_length, ats_eq]
    simp only [L18_0, nth_0, nth_1, nth_2, toInt_int, toList_list, hrl, c1, iff_false']
theorem nth_gv {a v : List Int} (hv : v.length = a.length) {x : Int} (hx : x ∈ a) : nth (v.map PV.int) (a.idxOf x) = .int (gv a v x) := by
  have h := List.idxOf_lt_length_of_mem hx
  exact nth_ints (by omega)
theorem min_lst {a v : List Int} {r : Int × Int} (h : gv a v r.1 ≠ gv a v r.2) : (if gv a v r.1 < gv a v r.2 then gv a v r.1 else gv a v r.2) = lst a v r := by
  unfold lst
  by_cases h1 : gv a v r.1 < gv a v r.2
  · rw [if_pos h1, if_neg (by omega)]
  · rw [if_neg h1, if_pos (by omega)]
theorem minS (x y : Int) : Rn 43 [.int x, .int y] [.int (if x < y then x else y)] := by
  refine Is.of e43 (Evt.all fun n => ?_)
  by_cases h : x < y
  · rw [if_pos h]; simp only [F43, nth_0, nth_1, toInt_int, ltT h, iff_true']
  · rw [if_neg h]; simp only [F43, nth_0, nth_1, toInt_int, ltF (Int.not_lt.1 h), iff_false']
theorem stepS {a : List Int} (hal : a.length ≤ 4194304) (hpos : ∀ x, x ∈ a → 0 ≤ x) (hl : rs.length ≤ 1048576) {i : Nat} (hi : i < rs.length) {v : List Int} (b : Bool) (hv : v.length = a.length) (h1 : 0 ≤ (rs.getD i (0, 0)).1 → (rs.getD i (0, 0)).1 ∈ a) (h2 : 0 ≤ (rs.getD i (0, 0)).2 → (rs.getD i (0, 0)).2 ∈ a) :
    Evt fun n => L18_1 (ev Try.prog sg n) n [.int i, .bool b, refsV rs, ints v, ints a] = some (.n, [.int (i + 1 : Nat), .bool (kst a (v, b) (rs.getD i (0, 0))).2, refsV rs, ints (kst a (v, b) (rs.getD i (0, 0))).1, ints a]) := by
  have hrl := refs_len rs
  have hvl := ints_len v
  have hn := nth_rp hi
  have c1 : ltI (i : Int) rs.length = true := ltT (by omega)
  have c2 : geI (i : Int) 0 = true := geT (by omega)
  have hk : ((i : Int)).toNat = i := by omega
  have w1 : IntKind.i64.wrap ((i : Int) + 1) = ((i + 1 : Nat) : Int) := by rw [wrap64 (by omega) (by omega)]; omega
  generalize rs.getD i (0, 0) = r at *
  have q1 := atS hal r.1
  have q2 := atS hal r.2
  have q3 := minS (gv a v r.1) (gv a v r.2)
  refine q1.mp3 q2 q3 fun n q1 q2 q3 => ?_
  by_cases n1 : r.1 < 0
  · have s1 : kst a (v, b) r = (v, b) := by unfold kst skip; rw [if_pos (by simp [n1])]
    have a1 : at22 a r.1 = -1 := by unfold at22; rw [if_neg fun h => by have := hpos _ h; omega]
    rw [a1] at q1
    rw [s1]
    have d1 : ltI (-1) 0 = true := rfl
    simp [L18_1, hrl, c1, c2, hn, rp0, rp1, q1, q2, d1, w1, hk]
  · have m1 := h1 (by omega)
    have a1 : at22 a r.1 = (a.idxOf r.1 : Int) := by unfold at22; rw [if_pos m1]
    have b1 := List.idxOf_lt_length_of_mem m1
    have d1 : ltI (a.idxOf r.1 : Int) 0 = false := ltF (by omega)
    rw [a1] at q1
    by_cases n2 : r.2 < 0
    · have s1 : kst a (v, b) r = (v, b) := by unfold kst skip; rw [if_pos (by simp [n2])]
      have a2 : at22 a r.2 = -1 := by unfold at22; rw [if_neg fun h => by have := hpos _ h; omega]
      rw [a2] at q2
      rw [s1]
      have d2 : ltI (-1) 0 = true := rfl
      simp [L18_1, hrl, c1, c2, hn, rp0, rp1, q1, q2, d1, d2, w1, hk]
    · have m2 := h2 (by omega)
      have a2 : at22 a r.2 = (a.idxOf r.2 : Int) := by unfold at22; rw [if_pos m2]
      have b2 := List.idxOf_lt_length_of_mem m2
      have d2 : ltI (a.idxOf r.2 : Int) 0 = false := ltF (by omega)
      rw [a2] at q2
      have g1 := nth_gv hv m1
      have g2 := nth_gv hv m2
      have t1 : geI (a.idxOf r.1 : Int) 0 = true := geT (by omega)
      have t2 : geI (a.idxOf r.2 : Int) 0 = true := geT (by omega)
      have t3 : ltI (a.idxOf r.1 : Int) v.length = true := ltT (by omega)
      have t4 : ltI (a.idxOf r.2 : Int) v.length = true := ltT (by omega)
      have k1 : ((a.idxOf r.1 : Nat) : Int).toNat = a.idxOf r.1 := by omega
      have k2 : ((a.idxOf r.2 : Nat) : Int).toNat = a.idxOf r.2 := by omega
      by_cases n3 : gv a v r.1 = gv a v r.2
      · have s1 : kst a (v, b) r = (v, b) := by unfold kst skip; rw [if_pos (by simp [n3])]
        have d3 : eqI (gv a v r.1) (gv a v r.2) = true := eqT n3
        rw [s1]
        simp [L18_1, hrl, hvl, c1, c2, hn, rp0, rp1, q1, q2, d1, d2, t1, t2, t3, t4, g1, g2, d3, w1, hk]
      · have s1 : kst a (v, b) r = ((v.set (a.idxOf r.1) (lst a v r)).set (a.idxOf r.2) (lst a v r), true) := by unfold kst skip; rw [if_neg (by simp [n1, n2, n3])]
        have d3 : eqI (gv a v r.1) (gv a v r.2) = false := eqF n3
        rw [min_lst n3] at q3
        rw [s1]
        simp [L18_1, hrl, hvl, c1, c2, hn, rp0, rp1, q1, q2, q3, d1, d2, t1, t2, t3, t4, g1, g2, d3, w1, hk, List.map_set]
end
end Go.Proofs.Ythmhgnnaihkjaaa.GFnExactKin
