/- What functions of the program and of the reference come to, for the law FnExactKin. Each under the conditions that it names. -/
import Derived.Test.YthmhgnnaihkjaaaCFnExactKin
namespace Go.Proofs.Ythmhgnnaihkjaaa.GFnExactKin
open Go Go.Rsc Go.Proofs.Ythmhgnnaihkjaaa
set_option maxRecDepth 100000
set_option linter.unusedVariables false
set_option linter.unusedSimpArgs false
/-! ### The program's own -/
def rp (r : Int × Int) : PV := .agg [.int r.1, .int r.2]
@[reducible] def refsV (rs : List (Int × Int)) : PV := .list (rs.map rp)
theorem refs_len (rs : List (Int × Int)) : (rs.map rp).length = rs.length := List.length_map ..
theorem nth_rp {rs : List (Int × Int)} {i : Nat} (h : i < rs.length) : nth (rs.map rp) i = rp (rs.getD i (0, 0)) := by simp [nth, List.getD_eq_getElem?_getD, h]
theorem rp0 (r : Int × Int) : (rp r).fld 0 = .int r.1 := rfl
theorem rp1 (r : Int × Int) : (rp r).fld 1 = .int r.2 := rfl
def flat (rs : List (Int × Int)) : List Int := rs.flatMap fun r => [r.1, r.2]
theorem take_snoc {α : Type} {l : List α} {i : Nat} {d : α} (h : i < l.length) : l.take (i + 1) = l.take i ++ [l.getD i d] := by
  rw [List.take_add_one]
  simp [List.getD_eq_getElem?_getD, h]
theorem flat_snoc {rs : List (Int × Int)} {i : Nat} (h : i < rs.length) : flat (rs.take (i + 1)) = flat (rs.take i) ++ [(rs.getD i (0, 0)).1, (rs.getD i (0, 0)).2] := by
  rw [take_snoc (d := (0, 0)) h]
  simp [flat, List.flatMap_append]
theorem flat_len (rs : List (Int × Int)) : (flat rs).length = 2 * rs.length := by
  induction rs with
  | nil => rfl
  | cons r rs ih =>
    show (r.1 :: r.2 :: flat rs).length = _
    simp only [List.length_cons, ih]
    omega
theorem mem_flat {rs : List (Int × Int)} {x : Int} : x ∈ flat rs ↔ ∃ r, r ∈ rs ∧ (x = r.1 ∨ x = r.2) := by
  simp [flat, List.mem_flatMap]
section
variable {rs : List (Int × Int)}
theorem flatI (hl : rs.length ≤ 1048576) : Evt fun n => loopEv (L20_0 (ev Try.prog sg n) n) n [.int 0, .int rs.length, refsV rs, .list [], refsV rs] = some (.x 0, [ints (flat rs), refsV rs]) := by
  have hrl := refs_len rs
  have h1 := loop_run (body := fun m => L20_0 (ev Try.prog sg m) m) (fun i => [.int i, .int rs.length, refsV rs, ints (flat (rs.take i)), refsV rs]) rs.length (e := .x 0) (res := [ints (flat rs), refsV rs]) (fun i hi => Evt.all fun m => ?_) (Evt.all fun m => ?_) (by decide)
  · exact h1
  · have hn := nth_rp hi
    have c1 : ltI (i : Int) rs.length = true := ltT (by omega)
    have c2 : geI (i : Int) 0 = true := geT (by omega)
    have hk : ((i : Int)).toNat = i := by omega
    have w1 : IntKind.i64.wrap ((i : Int) + 1) = ((i + 1 : Nat) : Int) := by rw [wrap64 (by omega) (by omega)]; omega
    have fl : (flat (rs.take i)).length = 2 * i := by rw [flat_len, List.length_take]; omega
    have c3 : ∀ x y : PV, leN (((flat (rs.take i)).map PV.int).length + [x, y].length) 17592186044416 = true := fun x y => leNT (by rw [ints_len, fl]; simp; omega)
    have e : ints (flat (rs.take (i + 1))) = .list ((flat (rs.take i)).map PV.int ++ [.int (rs.getD i (0, 0)).1, .int (rs.getD i (0, 0)).2]) := by
      rw [flat_snoc hi]; simp
    rw [e]
    simp only [L20_0, nth_0, nth_1, nth_2, nth_3, nth_4, toInt_int, toList_list, hrl, c1, c2, iff_true', hk, hn, rp0, rp1, c3, w1]
  · have c1 : ltI (rs.length : Int) rs.length = false := ltF (by omega)
    rw [List.take_length]
    simp only [L20_0, nth_0, nth_1, nth_3, nth_4, toInt_int, c1, iff_false']
theorem delI {f : List Int} (hf : f.length ≤ 4194304) : Rn 45 [ints f] [.list (posL (f.map PV.int))] := orc_is (s := delnegSig 3 46) rfl rfl (by
  show (if Nat.ble (f.map PV.int).length 140737488355328 = true then some [PV.list (posL (f.map PV.int))] else none) = _
  rw [if_pos (Nat.ble_eq_true_of_le (by rw [ints_len]; omega))])
theorem sortI {l : List PV} (hf : l.length ≤ 4194304) : Rn 47 [.list l] [.list (sortL l)] := orc_is (s := sortSig 3) rfl rfl (by
  show (if Nat.ble l.length 140737488355328 = true then some [PV.list (sortL l)] else none) = _
  rw [if_pos (Nat.ble_eq_true_of_le (by omega))])
theorem cptI {l : List PV} (hf : l.length ≤ 4194304) : Rn 48 [.list l] [.list (cptL l)] := orc_is (s := compactSig 3) rfl rfl (by
  show (if Nat.ble l.length 140737488355328 = true then some [PV.list (cptL l)] else none) = _
  rw [if_pos (Nat.ble_eq_true_of_le (by omega))])
theorem posL_len (l : List PV) : (posL l).length ≤ l.length := List.length_filter_le _ _
theorem sortL_len (l : List PV) : (sortL l).length = l.length := by
  unfold sortL
  rw [List.length_map, List.length_mergeSort, List.length_map]
theorem atsL_len (f : List Int) : (atsL f).length ≤ f.length := by
  unfold atsL Lib.compact Lib.compactUpTo
  rw [List.length_map]
  refine Nat.le_trans (List.length_filter_le _ _) ?_
  rw [List.length_range, List.length_mergeSort]
  exact List.length_filter_le _ _
/-- The map at its beginning. -/
theorem mapI {a : List Int} (hnd : a.Nodup) (hl : a.length ≤ 4194304) (x : PV) : Evt fun n => loopEv (L20_1 (ev Try.prog sg n) n) n [.int 0, .int a.length, x, ints a, .list []] = some (.x 2, [x, ints a, .list (mpV a a)]) := by
  have hrl := ints_len a
  have h1 := loop_run (body := fun m => L20_1 (ev Try.prog sg m) m) (fun i => [.int i, .int a.length, x, ints a, .list (mpV (a.take i) (a.take i))]) a.length (e := .x 2) (res := [x, ints a, .list (mpV a a)]) (fun i hi => Evt.all fun m => ?_) (Evt.all fun m => ?_) (by decide)
  · exact h1
  · have hn := nth_ints hi
    have c1 : ltI (i : Int) a.length = true := ltT (by omega)
    have c2 : geI (i : Int) 0 = true := geT (by omega)
    have hk : ((i : Int)).toNat = i := by omega
    have w1 : IntKind.i64.wrap ((i : Int) + 1) = ((i + 1 : Nat) : Int) := by rw [wrap64 (by omega) (by omega)]; omega
    have hnot : a.getD i 0 ∉ a.take i := by
      intro hm
      obtain ⟨k, hk, e⟩ := List.getElem_of_mem hm
      have hk2 : k < i := by simp at hk; omega
      rw [List.getElem_take] at e
      have e2 : a.getD i 0 = a[i] := by simp [List.getD_eq_getElem?_getD, hi]
      rw [e2] at e
      have := (List.getElem_inj hnd).1 e
      omega
    rw [take_snoc (d := 0) hi, ← mset_new rfl hnot]
    simp only [L20_1, nth_0, nth_1, nth_2, nth_3, nth_4, toInt_int, toList_list, hrl, c1, c2, iff_true', hk, hn, w1]
  · have c1 : ltI (a.length : Int) a.length = false := ltF (by omega)
    rw [List.take_length]
    simp only [L20_1, nth_0, nth_1, nth_2, nth_3, nth_4, toInt_int, c1, iff_false']
theorem sel_lst (a v : List Int) (r : Int × Int) : selB (ltI (gv a v r.2) (gv a v r.1)) (.int (gv a v r.2)) (.int (gv a v r.1)) = .int (lst a v r) := by
  unfold lst
  by_cases h : gv a v r.2 < gv a v r.1
  · rw [ltT h, if_pos h]; rfl
  · rw [ltF (by omega), if_neg h]; rfl
theorem stepI {a : List Int} (hl : rs.length ≤ 1048576) {i : Nat} (hi : i < rs.length) {v : List Int} (b : Bool) (hv : v.length = a.length) (h1 : 0 ≤ (rs.getD i (0, 0)).1 → (rs.getD i (0, 0)).1 ∈ a) (h2 : 0 ≤ (rs.getD i (0, 0)).2 → (rs.getD i (0, 0)).2 ∈ a) (x y : PV) (n : Nat) :
    L20_2 (ev Try.prog sg n) n [.int i, .int rs.length, refsV rs, .bool b, x, y, .list (mpV a v)] = some (.n, [.int (i + 1 : Nat), .int rs.length, refsV rs, .bool (kst a (v, b) (rs.getD i (0, 0))).2, x, y, .list (mpV a (kst a (v, b) (rs.getD i (0, 0))).1)]) := by
  have hrl := refs_len rs
  have hn := nth_rp hi
  have c1 : ltI (i : Int) rs.length = true := ltT (by omega)
  have c2 : geI (i : Int) 0 = true := geT (by omega)
  have hk : ((i : Int)).toNat = i := by omega
  have w1 : IntKind.i64.wrap ((i : Int) + 1) = ((i + 1 : Nat) : Int) := by rw [wrap64 (by omega) (by omega)]; omega
  generalize rs.getD i (0, 0) = r at *
  have tf : (true == false) = false := rfl
  have ff : (false == false) = true := rfl
  by_cases n1 : r.1 < 0
  · have s1 : kst a (v, b) r = (v, b) := by unfold kst skip; rw [if_pos (by simp [n1])]
    have d1 : ltI r.1 0 = true := ltT n1
    rw [s1]
    simp [L20_2, hrl, c1, c2, hn, rp0, rp1, d1, w1, hk]
  · have d1 : ltI r.1 0 = false := ltF (by omega)
    by_cases n2 : r.2 < 0
    · have s1 : kst a (v, b) r = (v, b) := by unfold kst skip; rw [if_pos (by simp [n2])]
      have d2 : ltI r.2 0 = true := ltT n2
      rw [s1]
      simp [L20_2, hrl, c1, c2, hn, rp0, rp1, d1, d2, w1, hk]
    · have d2 : ltI r.2 0 = false := ltF (by omega)
      have m1 := h1 (by omega)
      have m2 := h2 (by omega)
      have g1 := mget_mp hv m1
      have g2 := mget_mp hv m2
      by_cases n3 : gv a v r.1 = gv a v r.2
      · have s1 : kst a (v, b) r = (v, b) := by unfold kst skip; rw [if_pos (by simp [n3])]
        have d3 : eqI (gv a v r.1) (gv a v r.2) = true := eqT n3
        rw [s1]
        simp [L20_2, hrl, c1, c2, hn, rp0, rp1, d1, d2, g1, g2, d3, w1, hk]
      · have s1 : kst a (v, b) r = ((v.set (a.idxOf r.1) (lst a v r)).set (a.idxOf r.2) (lst a v r), true) := by unfold kst skip; rw [if_neg (by simp [n1, n2, n3])]
        have d3 : eqI (gv a v r.1) (gv a v r.2) = false := eqF n3
        have e1 := mset_mp (y := lst a v r) hv m1
        have e2 := mset_mp (v := v.set (a.idxOf r.1) (lst a v r)) (y := lst a v r) (by rw [List.length_set]; exact hv) m2
        have sl := sel_lst a v r
        rw [s1]
        simp [L20_2, hrl, c1, c2, hn, rp0, rp1, d1, d2, g1, g2, d3, w1, hk, sl, e1, e2]
end
end Go.Proofs.Ythmhgnnaihkjaaa.GFnExactKin
