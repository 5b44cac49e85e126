/- What functions of the program and of the reference come to, for the law FnExactGen. Each under the conditions that it names. -/
import Derived.Test.YtijgokehlicmnaaDFnExactGen
namespace Go.Proofs.Ytijgokehlicmnaa.GFnExactGen
open Go Go.Rsc Go.Proofs.Ytijgokehlicmnaa
set_option maxRecDepth 100000
set_option linter.unusedVariables false
set_option linter.unusedSimpArgs false
theorem map_lenG (l : List Int) : (l.map PV.int).length = l.length := List.length_map ..
/-- The place that a node of the plain kind makes, behind its kids. -/
def putOf (sl : List Int) (op n : Int) (nk : Nat) : PV :=
  if op = 2 then .agg [.int 2, nth (sl.map PV.int) n.toNat, .int 0]
  else if op = 1 ∨ op = 3 ∨ op = 4 then .agg [.int op, .int n, .int 0]
  else if op = 5 then .agg [.int 5, .int n, .int nk]
  else if op = 14 then .agg [.int 8, .int n, .int nk]
  else if op = 6 then .agg [.int 6, .int 0, .int 0]
  else if op = 15 then .agg [.int 17, .int 0, .int 0]
  else if op = 16 then .agg [.int 9, .int n, .int 0]
  else if op = 19 then .agg [.int 21, .int 0, .int 0]
  else .agg [.int (op + 3), .int 0, .int 0]
def plainOp (op : Int) : Prop := op = 1 ∨ op = 2 ∨ op = 3 ∨ op = 4 ∨ op = 5 ∨ op = 6 ∨ op = 9 ∨ op = 10 ∨ op = 11 ∨ op = 12 ∨ op = 13 ∨ op = 14 ∨ op = 15 ∨ op = 16 ∨ op = 19
section
variable {ks : List PV} {op n : Int} {out o1 : List PV} {sl : List Int} {d : Int}
theorem plain_spec (hp : plainOp op) (ho : o1.length ≤ 4000000) (hn : op = 2 → 0 ≤ n ∧ n < sl.length)
    (hloop : Evt fun N => loopEv (L136_0 (ev Try.prog sg N) N) N [.int 0, .int d, intsG sl, .agg [.list out], .agg [.int op, .int n, .list ks]] = some (.x 1, [intsG sl, .agg [.list o1], .agg [.int op, .int n, .list ks]])) :
    Rn 136 [.agg [.list out], .agg [.int op, .int n, .list ks], intsG sl, .int d] [.agg [.list (o1 ++ [putOf sl op n ks.length])]] := by
  have hn0 : True := trivial
  rcases hp with rfl | rfl | rfl | rfl | rfl | rfl | rfl | rfl | rfl | rfl | rfl | rfl | rfl | rfl | rfl
  · exact Is.of e136 (hloop.mp2 (putS ho (.int 1) (.int n) (.int 0)) fun k q1 q2 => by simp (disch := omega) only [F136, nth_0, nth_1, nth_2, nth_3, nth_4, nth_5, fld_agg, toInt_int, toList_list, toBool_bool, eqT, eqF, geT, ltT, iff_true', iff_false', thenN_n, thenE_some, passB_same, q1, q2, Option.bind_some, map_lenG, wrap64, hn0]; rfl)
  · have := hn rfl
    exact Is.of e136 (hloop.mp2 (putS ho (.int 2) (nth (sl.map PV.int) n.toNat) (.int 0)) fun k q1 q2 => by simp (disch := omega) only [F136, nth_0, nth_1, nth_2, nth_3, nth_4, nth_5, fld_agg, toInt_int, toList_list, toBool_bool, eqT, eqF, geT, ltT, iff_true', iff_false', thenN_n, thenE_some, passB_same, q1, q2, Option.bind_some, map_lenG, wrap64, hn0]; rfl)
  · exact Is.of e136 (hloop.mp2 (putS ho (.int 3) (.int n) (.int 0)) fun k q1 q2 => by simp (disch := omega) only [F136, nth_0, nth_1, nth_2, nth_3, nth_4, nth_5, fld_agg, toInt_int, toList_list, toBool_bool, eqT, eqF, geT, ltT, iff_true', iff_false', thenN_n, thenE_some, passB_same, q1, q2, Option.bind_some, map_lenG, wrap64, hn0]; rfl)
  · exact Is.of e136 (hloop.mp2 (putS ho (.int 4) (.int n) (.int 0)) fun k q1 q2 => by simp (disch := omega) only [F136, nth_0, nth_1, nth_2, nth_3, nth_4, nth_5, fld_agg, toInt_int, toList_list, toBool_bool, eqT, eqF, geT, ltT, iff_true', iff_false', thenN_n, thenE_some, passB_same, q1, q2, Option.bind_some, map_lenG, wrap64, hn0]; rfl)
  · exact Is.of e136 (hloop.mp2 (putS ho (.int 5) (.int n) (.int ks.length)) fun k q1 q2 => by simp (disch := omega) only [F136, nth_0, nth_1, nth_2, nth_3, nth_4, nth_5, fld_agg, toInt_int, toList_list, toBool_bool, eqT, eqF, geT, ltT, iff_true', iff_false', thenN_n, thenE_some, passB_same, q1, q2, Option.bind_some, map_lenG, wrap64, hn0]; rfl)
  · exact Is.of e136 (hloop.mp2 (putS ho (.int 6) (.int 0) (.int 0)) fun k q1 q2 => by simp (disch := omega) only [F136, nth_0, nth_1, nth_2, nth_3, nth_4, nth_5, fld_agg, toInt_int, toList_list, toBool_bool, eqT, eqF, geT, ltT, iff_true', iff_false', thenN_n, thenE_some, passB_same, q1, q2, Option.bind_some, map_lenG, wrap64, hn0]; rfl)
  · exact Is.of e136 (hloop.mp2 (putS ho (.int 12) (.int 0) (.int 0)) fun k q1 q2 => by
      have hn0 : (12 + 9 - 9 : Int) = 12 := rfl
      simp (disch := omega) only [F136, nth_0, nth_1, nth_2, nth_3, nth_4, nth_5, fld_agg, toInt_int, toList_list, toBool_bool, eqT, eqF, geT, ltT, iff_true', iff_false', thenN_n, thenE_some, passB_same, q1, q2, Option.bind_some, map_lenG, wrap64, hn0]; rfl)
  · exact Is.of e136 (hloop.mp2 (putS ho (.int 13) (.int 0) (.int 0)) fun k q1 q2 => by
      have hn0 : (12 + 10 - 9 : Int) = 13 := rfl
      simp (disch := omega) only [F136, nth_0, nth_1, nth_2, nth_3, nth_4, nth_5, fld_agg, toInt_int, toList_list, toBool_bool, eqT, eqF, geT, ltT, iff_true', iff_false', thenN_n, thenE_some, passB_same, q1, q2, Option.bind_some, map_lenG, wrap64, hn0]; rfl)
  · exact Is.of e136 (hloop.mp2 (putS ho (.int 14) (.int 0) (.int 0)) fun k q1 q2 => by
      have hn0 : (12 + 11 - 9 : Int) = 14 := rfl
      simp (disch := omega) only [F136, nth_0, nth_1, nth_2, nth_3, nth_4, nth_5, fld_agg, toInt_int, toList_list, toBool_bool, eqT, eqF, geT, ltT, iff_true', iff_false', thenN_n, thenE_some, passB_same, q1, q2, Option.bind_some, map_lenG, wrap64, hn0]; rfl)
  · exact Is.of e136 (hloop.mp2 (putS ho (.int 15) (.int 0) (.int 0)) fun k q1 q2 => by
      have hn0 : (12 + 12 - 9 : Int) = 15 := rfl
      simp (disch := omega) only [F136, nth_0, nth_1, nth_2, nth_3, nth_4, nth_5, fld_agg, toInt_int, toList_list, toBool_bool, eqT, eqF, geT, ltT, iff_true', iff_false', thenN_n, thenE_some, passB_same, q1, q2, Option.bind_some, map_lenG, wrap64, hn0]; rfl)
  · exact Is.of e136 (hloop.mp2 (putS ho (.int 16) (.int 0) (.int 0)) fun k q1 q2 => by
      have hn0 : (12 + 13 - 9 : Int) = 16 := rfl
      simp (disch := omega) only [F136, nth_0, nth_1, nth_2, nth_3, nth_4, nth_5, fld_agg, toInt_int, toList_list, toBool_bool, eqT, eqF, geT, ltT, iff_true', iff_false', thenN_n, thenE_some, passB_same, q1, q2, Option.bind_some, map_lenG, wrap64, hn0]; rfl)
  · exact Is.of e136 (hloop.mp2 (putS ho (.int 8) (.int n) (.int ks.length)) fun k q1 q2 => by simp (disch := omega) only [F136, nth_0, nth_1, nth_2, nth_3, nth_4, nth_5, fld_agg, toInt_int, toList_list, toBool_bool, eqT, eqF, geT, ltT, iff_true', iff_false', thenN_n, thenE_some, passB_same, q1, q2, Option.bind_some, map_lenG, wrap64, hn0]; rfl)
  · exact Is.of e136 (hloop.mp2 (putS ho (.int 17) (.int 0) (.int 0)) fun k q1 q2 => by simp (disch := omega) only [F136, nth_0, nth_1, nth_2, nth_3, nth_4, nth_5, fld_agg, toInt_int, toList_list, toBool_bool, eqT, eqF, geT, ltT, iff_true', iff_false', thenN_n, thenE_some, passB_same, q1, q2, Option.bind_some, map_lenG, wrap64, hn0]; rfl)
  · exact Is.of e136 (hloop.mp2 (putS ho (.int 9) (.int n) (.int 0)) fun k q1 q2 => by simp (disch := omega) only [F136, nth_0, nth_1, nth_2, nth_3, nth_4, nth_5, fld_agg, toInt_int, toList_list, toBool_bool, eqT, eqF, geT, ltT, iff_true', iff_false', thenN_n, thenE_some, passB_same, q1, q2, Option.bind_some, map_lenG, wrap64, hn0]; rfl)
  · exact Is.of e136 (hloop.mp2 (putS ho (.int 21) (.int 0) (.int 0)) fun k q1 q2 => by simp (disch := omega) only [F136, nth_0, nth_1, nth_2, nth_3, nth_4, nth_5, fld_agg, toInt_int, toList_list, toBool_bool, eqT, eqF, geT, ltT, iff_true', iff_false', thenN_n, thenE_some, passB_same, q1, q2, Option.bind_some, map_lenG, wrap64, hn0]; rfl)
theorem plain_kids (ho : o1.length ≤ 4000000)
    (hloop : Evt fun N => loopEv (L184_0 (ev Try.prog sg N) N) N [.int 0, .int ks.length, .list ks, .int d, .agg [.list out, intsG sl]] = some (.x 0, [.agg [.list o1, intsG sl]])) :
    Rn 184 [.agg [.list out, intsG sl], .list ks, .int d] [.agg [.list o1, intsG sl]] :=
  Is.of e184 (hloop.mp fun k q1 => by simp only [F184, nth_0, nth_1, nth_2, toList_list, q1, thenE_some, passB_same, thenN_n])
theorem leaf_impl (hp : op = 1 ∨ op = 2 ∨ op = 3 ∨ op = 4 ∨ op = 19) (ho : out.length ≤ 4000000) (hn : op = 2 → 0 ≤ n ∧ n < sl.length) (hn4 : op = 4 → n = 0) :
    Rn 140 [.agg [.list out, intsG sl], .agg [.int op, .int n, .list ks], .int d] [.agg [.list (out ++ [putOf sl op n ks.length]), intsG sl]] := by
  have hn0 : True := trivial
  have q1 : True := trivial
  rcases hp with rfl | rfl | rfl | rfl | rfl
  · exact Is.of e140 ((putI ho (intsG sl) (.int 1) (.int n) (.int 0)).mp fun k q2 => by simp (disch := omega) only [F140, nth_0, nth_1, nth_2, nth_3, nth_4, nth_5, fld_agg, toInt_int, toList_list, toBool_bool, eqT, eqF, geT, ltT, iff_true', iff_false', q1, q2, Option.bind_some, map_lenG, wrap64, hn0]; rfl)
  · have := hn rfl
    exact Is.of e140 ((putI ho (intsG sl) (.int 2) (nth (sl.map PV.int) n.toNat) (.int 0)).mp fun k q2 => by simp (disch := omega) only [F140, nth_0, nth_1, nth_2, nth_3, nth_4, nth_5, fld_agg, toInt_int, toList_list, toBool_bool, eqT, eqF, geT, ltT, iff_true', iff_false', q1, q2, Option.bind_some, map_lenG, wrap64, hn0]; rfl)
  · exact Is.of e140 ((putI ho (intsG sl) (.int 3) (.int n) (.int 0)).mp fun k q2 => by simp (disch := omega) only [F140, nth_0, nth_1, nth_2, nth_3, nth_4, nth_5, fld_agg, toInt_int, toList_list, toBool_bool, eqT, eqF, geT, ltT, iff_true', iff_false', q1, q2, Option.bind_some, map_lenG, wrap64, hn0]; rfl)
  · have := hn4 rfl
    subst this
    exact Is.of e140 ((putI ho (intsG sl) (.int 4) (.int 0) (.int 0)).mp fun k q2 => by simp (disch := omega) only [F140, nth_0, nth_1, nth_2, nth_3, nth_4, nth_5, fld_agg, toInt_int, toList_list, toBool_bool, eqT, eqF, geT, ltT, iff_true', iff_false', q1, q2, Option.bind_some, map_lenG, wrap64, hn0]; rfl)
  · exact Is.of e140 ((putI ho (intsG sl) (.int 21) (.int 0) (.int 0)).mp fun k q2 => by simp (disch := omega) only [F140, nth_0, nth_1, nth_2, nth_3, nth_4, nth_5, fld_agg, toInt_int, toList_list, toBool_bool, eqT, eqF, geT, ltT, iff_true', iff_false', q1, q2, Option.bind_some, map_lenG, wrap64, hn0]; rfl)
theorem plain_impl (hp : op = 5 ∨ op = 6 ∨ op = 9 ∨ op = 10 ∨ op = 11 ∨ op = 12 ∨ op = 13 ∨ op = 14 ∨ op = 15 ∨ op = 16) (ho : o1.length ≤ 4000000)
    (hk : Rn 184 [.agg [.list out, intsG sl], .list ks, .int d] [.agg [.list o1, intsG sl]]) :
    Rn 140 [.agg [.list out, intsG sl], .agg [.int op, .int n, .list ks], .int d] [.agg [.list (o1 ++ [putOf sl op n ks.length]), intsG sl]] := by
  have hn0 : True := trivial
  rcases hp with rfl | rfl | rfl | rfl | rfl | rfl | rfl | rfl | rfl | rfl
  · exact Is.of e140 (hk.mp2 (putI ho (intsG sl) (.int 5) (.int n) (.int ks.length)) fun k q1 q2 => by simp (disch := omega) only [F140, nth_0, nth_1, nth_2, nth_3, nth_4, nth_5, fld_agg, toInt_int, toList_list, toBool_bool, eqT, eqF, geT, ltT, iff_true', iff_false', q1, q2, Option.bind_some, map_lenG, wrap64, hn0]; rfl)
  · exact Is.of e140 (hk.mp2 (putI ho (intsG sl) (.int 6) (.int 0) (.int 0)) fun k q1 q2 => by simp (disch := omega) only [F140, nth_0, nth_1, nth_2, nth_3, nth_4, nth_5, fld_agg, toInt_int, toList_list, toBool_bool, eqT, eqF, geT, ltT, iff_true', iff_false', q1, q2, Option.bind_some, map_lenG, wrap64, hn0]; rfl)
  · exact Is.of e140 (hk.mp2 (putI ho (intsG sl) (.int 12) (.int 0) (.int 0)) fun k q1 q2 => by
      have hn0 : (12 + 9 - 9 : Int) = 12 := rfl
      simp (disch := omega) only [F140, nth_0, nth_1, nth_2, nth_3, nth_4, nth_5, fld_agg, toInt_int, toList_list, toBool_bool, eqT, eqF, geT, ltT, iff_true', iff_false', q1, q2, Option.bind_some, map_lenG, wrap64, hn0]; rfl)
  · exact Is.of e140 (hk.mp2 (putI ho (intsG sl) (.int 13) (.int 0) (.int 0)) fun k q1 q2 => by
      have hn0 : (12 + 10 - 9 : Int) = 13 := rfl
      simp (disch := omega) only [F140, nth_0, nth_1, nth_2, nth_3, nth_4, nth_5, fld_agg, toInt_int, toList_list, toBool_bool, eqT, eqF, geT, ltT, iff_true', iff_false', q1, q2, Option.bind_some, map_lenG, wrap64, hn0]; rfl)
  · exact Is.of e140 (hk.mp2 (putI ho (intsG sl) (.int 14) (.int 0) (.int 0)) fun k q1 q2 => by
      have hn0 : (12 + 11 - 9 : Int) = 14 := rfl
      simp (disch := omega) only [F140, nth_0, nth_1, nth_2, nth_3, nth_4, nth_5, fld_agg, toInt_int, toList_list, toBool_bool, eqT, eqF, geT, ltT, iff_true', iff_false', q1, q2, Option.bind_some, map_lenG, wrap64, hn0]; rfl)
  · exact Is.of e140 (hk.mp2 (putI ho (intsG sl) (.int 15) (.int 0) (.int 0)) fun k q1 q2 => by
      have hn0 : (12 + 12 - 9 : Int) = 15 := rfl
      simp (disch := omega) only [F140, nth_0, nth_1, nth_2, nth_3, nth_4, nth_5, fld_agg, toInt_int, toList_list, toBool_bool, eqT, eqF, geT, ltT, iff_true', iff_false', q1, q2, Option.bind_some, map_lenG, wrap64, hn0]; rfl)
  · exact Is.of e140 (hk.mp2 (putI ho (intsG sl) (.int 16) (.int 0) (.int 0)) fun k q1 q2 => by
      have hn0 : (12 + 13 - 9 : Int) = 16 := rfl
      simp (disch := omega) only [F140, nth_0, nth_1, nth_2, nth_3, nth_4, nth_5, fld_agg, toInt_int, toList_list, toBool_bool, eqT, eqF, geT, ltT, iff_true', iff_false', q1, q2, Option.bind_some, map_lenG, wrap64, hn0]; rfl)
  · exact Is.of e140 (hk.mp2 (putI ho (intsG sl) (.int 8) (.int n) (.int ks.length)) fun k q1 q2 => by simp (disch := omega) only [F140, nth_0, nth_1, nth_2, nth_3, nth_4, nth_5, fld_agg, toInt_int, toList_list, toBool_bool, eqT, eqF, geT, ltT, iff_true', iff_false', q1, q2, Option.bind_some, map_lenG, wrap64, hn0]; rfl)
  · exact Is.of e140 (hk.mp2 (putI ho (intsG sl) (.int 17) (.int 0) (.int 0)) fun k q1 q2 => by simp (disch := omega) only [F140, nth_0, nth_1, nth_2, nth_3, nth_4, nth_5, fld_agg, toInt_int, toList_list, toBool_bool, eqT, eqF, geT, ltT, iff_true', iff_false', q1, q2, Option.bind_some, map_lenG, wrap64, hn0]; rfl)
  · exact Is.of e140 (hk.mp2 (putI ho (intsG sl) (.int 9) (.int n) (.int 0)) fun k q1 q2 => by simp (disch := omega) only [F140, nth_0, nth_1, nth_2, nth_3, nth_4, nth_5, fld_agg, toInt_int, toList_list, toBool_bool, eqT, eqF, geT, ltT, iff_true', iff_false', q1, q2, Option.bind_some, map_lenG, wrap64, hn0]; rfl)
end
theorem sq0 (a b x : PV) : PV.setFld (.agg [a, b]) 0 x = .agg [x, b] := rfl
theorem sq1 (a b x : PV) : PV.setFld (.agg [a, b]) 1 x = .agg [a, x] := rfl
section
variable {x0 x1 x2 : PV} {s0 s1 s2 : Nat} {n : Int} {out o1 o2 o3 : List PV} {sl : List Int} {d : Int}
theorem let_spec (hd : 0 ≤ d) (hd2 : d ≤ 1000000) (hs : sl.length ≤ 1000000) (ho : o2.length ≤ 4000000) (h0 : Made x0 s0 out o1 sl d) (h1 : Made x1 s1 o1 o2 (sl ++ [d]) (d + 1)) :
    Rn 136 [.agg [.list out], .agg [.int 7, .int n, .list [x0, x1]], intsG sl, .int d] [.agg [.list (o2 ++ [.agg [.int 20, .int 0, .int 0]])]] := by
  have q2 := h1.spec
  have hm : (sl ++ [d]).map PV.int = sl.map PV.int ++ [.int d] := by simp
  simp only [intsG, hm] at q2
  have hl := map_lenG sl
  refine Is.of e136 (h0.spec.mp3 q2 (putS ho (.int 20) (.int 0) (.int 0)) fun k q1 q2 q3 => ?_)
  have e1 : ([x0, x1] : List PV).length = 2 := rfl
  simp (disch := omega) only [F136, nth_0, nth_1, nth_2, nth_3, nth_4, nth_5, fld_agg, toInt_int, toList_list, toBool_bool, eqT, eqF, geT, ltT, leNT, e1, iff_true', iff_false', thenN_n, q1, q2, q3, Option.bind_some, hl, wrap64, List.nil_append, List.length_nil, List.length_singleton, Int.toNat_zero, show Int.toNat 1 = 1 from rfl]
theorem let_impl (hd : 0 ≤ d) (hd2 : d ≤ 1000000) (hs : sl.length ≤ 1000000) (ho : o2.length ≤ 4000000) (h0 : Made x0 s0 out o1 sl d) (h1 : Made x1 s1 o1 o2 (sl ++ [d]) (d + 1)) :
    Rn 140 [.agg [.list out, intsG sl], .agg [.int 7, .int n, .list [x0, x1]], .int d] [.agg [.list (o2 ++ [.agg [.int 20, .int 0, .int 0]]), intsG sl]] := by
  have q2 := h1.impl
  have hm : (sl ++ [d]).map PV.int = sl.map PV.int ++ [.int d] := by simp
  simp only [intsG, hm] at q2
  have hl := map_lenG sl
  have hlet : Rn 182 [.agg [.list out, intsG sl], .agg [.int 7, .int n, .list [x0, x1]], .int d] [.agg [.list (o2 ++ [.agg [.int 20, .int 0, .int 0]]), intsG sl]] := by
    refine Is.of e182 (h0.impl.mp3 q2 (putI ho (intsG sl) (.int 20) (.int 0) (.int 0)) fun k q1 q2 q3 => ?_)
    have e1 : ([x0, x1] : List PV).length = 2 := rfl
    have hL : (sl.map PV.int ++ [PV.int d]).length = sl.length + 1 := by simp
    have hW : IntKind.i64.wrap (((sl.map PV.int ++ [PV.int d]).length : Int) - 1) = ((sl.map PV.int).length : Int) := by rw [wrap64 (by omega) (by omega)]; omega
    have hT : (sl.map PV.int ++ [PV.int d]).take (sl.map PV.int).length = sl.map PV.int := by simp
    simp (disch := omega) only [F182, nth_0, nth_1, nth_2, nth_3, nth_4, nth_5, fld_agg, sq0, sq1, toInt_int, toList_list, geT, ltT, leNT, leT, e1, iff_true', q1, q2, q3, Option.bind_some, wrap64 (x := d + 1), List.length_singleton, hW, hT, Int.toNat_natCast, Int.toNat_zero, show Int.toNat 1 = 1 from rfl]
  exact Is.of e140 (hlet.mp fun k q1 => by
    simp (disch := omega) only [F140, nth_0, nth_1, nth_2, fld_agg, toInt_int, eqT, eqF, iff_true', iff_false', q1, Option.bind_some])
end
def fix1 (o : List PV) (at_ fl : Nat) : List PV := o.set at_ ((nth o at_).setFld fl (.int o.length))
section
variable {x0 x1 x2 : PV} {s0 s1 s2 : Nat} {op n : Int} {out o1 o2 o3 : List PV} {sl : List Int} {d : Int}
theorem both_spec (zero : Bool) {fl : Nat} (hfl : fl = if zero then 1 else 2) (ho : o2.length ≤ 4000000) (ho1 : o1.length < o2.length) (ho3 : o2.length + 1 ≤ o3.length) {b : List PV} (h1 : Made x1 s1 b o2 sl d)
    (h2 : Made x2 s2 (fix1 (o2 ++ [.agg [.int 19, .int 0, .int 0]]) o1.length fl) o3 sl d) :
    Rn 179 [.agg [.list b], .int o1.length, .bool zero, .agg [.int op, .int n, .list [x0, x1, x2]], intsG sl, .int d] [.agg [.list (fix1 o3 o2.length 1)]] := by
  have q3 := h2.spec
  have e1 : ([x0, x1, x2] : List PV).length = 3 := rfl
  have hL : (o2 ++ [PV.agg [.int 19, .int 0, .int 0]]).length = o2.length + 1 := by simp
  have s1 : ∀ l x : PV, PV.setFld (.agg [l]) 0 x = .agg [x] := fun _ _ => rfl
  refine Is.of e179 (h1.spec.mp3 (putS ho (.int 19) (.int 0) (.int 0)) q3 fun k q1 q2 q3 => ?_)
  cases zero with
  | true =>
    simp only [if_true] at hfl; subst hfl
    simp only [fix1] at q3
    simp (disch := omega) only [F179, nth_0, nth_1, nth_2, nth_3, nth_4, nth_5, fld_agg, s1, toInt_int, toList_list, toBool_bool, geT, ltT, e1, iff_true', iff_false', thenN_n, q1, q2, q3, Option.bind_some, Int.toNat_natCast, show Int.toNat 1 = 1 from rfl, show Int.toNat 2 = 2 from rfl, fix1]
  | false =>
    simp only [Bool.false_eq_true, if_false] at hfl; subst hfl
    simp only [fix1] at q3
    simp (disch := omega) only [F179, nth_0, nth_1, nth_2, nth_3, nth_4, nth_5, fld_agg, s1, toInt_int, toList_list, toBool_bool, geT, ltT, e1, iff_true', iff_false', thenN_n, q1, q2, q3, Option.bind_some, Int.toNat_natCast, show Int.toNat 1 = 1 from rfl, show Int.toNat 2 = 2 from rfl, fix1]
theorem branch_impl {code : Int} {fl : Nat} (hc : (code = 18 ∧ fl = 1) ∨ ((code = 10 ∨ code = 11) ∧ fl = 2)) (hb1 : o1.length ≤ 4000000) (ho : o2.length ≤ 4000000) (ho1 : o1.length < o2.length) (ho3 : o2.length + 1 ≤ o3.length) (h0 : Made x0 s0 out o1 sl d) (h1 : Made x1 s1 (o1 ++ [.agg [.int code, .int n, .int 0]]) o2 sl d)
    (h2 : Made x2 s2 (fix1 (o2 ++ [.agg [.int 19, .int 0, .int 0]]) o1.length fl) o3 sl d) :
    Rn 183 [.agg [.list out, intsG sl], .agg [.int op, .int n, .list [x0, x1, x2]], .int code, .int d] [.agg [.list (fix1 o3 o2.length 1), intsG sl]] := by
  have e1 : ([x0, x1, x2] : List PV).length = 3 := rfl
  have hL : (o2 ++ [PV.agg [.int 19, .int 0, .int 0]]).length = o2.length + 1 := by simp
  have hlead : Rn 212 [.int code] [.int fl] := by
    rcases hc with ⟨rfl, rfl⟩ | ⟨rfl | rfl, rfl⟩ <;> exact Is.of e212 (Evt.all fun k => by simp [F212, eqI])
  refine Is.of e183 ((h0.impl.and hlead).mp5 (putI hb1 (intsG sl) (.int code) (.int n) (.int 0)) h1.impl (putI ho (intsG sl) (.int 19) (.int 0) (.int 0)) h2.impl fun k ⟨q0, ql⟩ q1 q2 q3 q4 => ?_)
  simp only [fix1] at q4
  rcases hc with ⟨_, rfl⟩ | ⟨_, rfl⟩
  · simp (disch := omega) only [F183, nth_0, nth_1, nth_2, nth_3, nth_4, nth_5, fld_agg, sq0, toInt_int, toList_list, toBool_bool, geT, ltT, eqT, eqF, e1, iff_true', iff_false', thenN_n, q0, ql, q1, q2, q3, q4, Option.bind_some, Int.toNat_natCast, Int.toNat_zero, show Int.toNat 1 = 1 from rfl, show Int.toNat 2 = 2 from rfl, fix1]
  · simp (disch := omega) only [F183, nth_0, nth_1, nth_2, nth_3, nth_4, nth_5, fld_agg, sq0, toInt_int, toList_list, toBool_bool, geT, ltT, eqT, eqF, e1, iff_true', iff_false', thenN_n, q0, ql, q1, q2, q3, q4, Option.bind_some, Int.toNat_natCast, Int.toNat_zero, show Int.toNat 1 = 1 from rfl, show Int.toNat 2 = 2 from rfl, fix1]
end
section
variable {x0 x1 x2 : PV} {s0 s1 s2 : Nat} {op n : Int} {out o1 o2 o3 : List PV} {sl : List Int} {d : Int}
def codeOf (op : Int) : Int := if op = 8 then 18 else op - 7
def fldOf (op : Int) : Nat := if op = 8 then 1 else 2
theorem br_spec (hop : op = 8 ∨ op = 17 ∨ op = 18) (hn : op = 8 → n = 0) (hb1 : o1.length ≤ 4000000) (ho : o2.length ≤ 4000000) (ho1 : o1.length < o2.length) (ho3 : o2.length + 1 ≤ o3.length) (h0 : Made x0 s0 out o1 sl d) (h1 : Made x1 s1 (o1 ++ [.agg [.int (codeOf op), .int n, .int 0]]) o2 sl d)
    (h2 : Made x2 s2 (fix1 (o2 ++ [.agg [.int 19, .int 0, .int 0]]) o1.length (fldOf op)) o3 sl d) :
    Rn 136 [.agg [.list out], .agg [.int op, .int n, .list [x0, x1, x2]], intsG sl, .int d] [.agg [.list (fix1 o3 o2.length 1)]] := by
  have e1 : ([x0, x1, x2] : List PV).length = 3 := rfl
  rcases hop with rfl | rfl | rfl
  · have := hn rfl
    subst this
    have hb := both_spec (x0 := x0) (op := 8) (n := 0) true rfl ho ho1 ho3 h1 h2
    refine Is.of e136 (h0.spec.mp3 (putS hb1 (.int 18) (.int 0) (.int 0)) hb fun k q1 q2 q3 => ?_)
    simp only [codeOf, if_true] at q3
    simp (disch := omega) only [F136, nth_0, nth_1, nth_2, nth_3, nth_4, nth_5, fld_agg, toInt_int, toList_list, toBool_bool, eqT, eqF, geT, ltT, e1, iff_true', iff_false', thenN_n, q1, q2, q3, Option.bind_some, Int.toNat_zero]
  · have hb := both_spec (x0 := x0) (op := 17) (n := n) false rfl ho ho1 ho3 h1 h2
    refine Is.of e136 (h0.spec.mp3 (putS hb1 (.int 10) (.int n) (.int 0)) hb fun k q1 q2 q3 => ?_)
    have ec : codeOf 17 = 10 := rfl
    have e9 : (10 + 17 - 17 : Int) = 10 := rfl
    rw [ec] at q3
    simp (disch := omega) only [F136, nth_0, nth_1, nth_2, nth_3, nth_4, nth_5, fld_agg, toInt_int, toList_list, toBool_bool, eqT, eqF, geT, ltT, e1, e9, wrap64, iff_true', iff_false', thenN_n, q1, q2, q3, Option.bind_some, Int.toNat_zero]
  · have hb := both_spec (x0 := x0) (op := 18) (n := n) false rfl ho ho1 ho3 h1 h2
    refine Is.of e136 (h0.spec.mp3 (putS hb1 (.int 11) (.int n) (.int 0)) hb fun k q1 q2 q3 => ?_)
    have ec : codeOf 18 = 11 := rfl
    have e9 : (10 + 18 - 17 : Int) = 11 := rfl
    rw [ec] at q3
    simp (disch := omega) only [F136, nth_0, nth_1, nth_2, nth_3, nth_4, nth_5, fld_agg, toInt_int, toList_list, toBool_bool, eqT, eqF, geT, ltT, e1, e9, wrap64, iff_true', iff_false', thenN_n, q1, q2, q3, Option.bind_some, Int.toNat_zero]
theorem br_impl (hop : op = 8 ∨ op = 17 ∨ op = 18) (hb1 : o1.length ≤ 4000000) (ho : o2.length ≤ 4000000) (ho1 : o1.length < o2.length) (ho3 : o2.length + 1 ≤ o3.length) (h0 : Made x0 s0 out o1 sl d) (h1 : Made x1 s1 (o1 ++ [.agg [.int (codeOf op), .int n, .int 0]]) o2 sl d)
    (h2 : Made x2 s2 (fix1 (o2 ++ [.agg [.int 19, .int 0, .int 0]]) o1.length (fldOf op)) o3 sl d) :
    Rn 140 [.agg [.list out, intsG sl], .agg [.int op, .int n, .list [x0, x1, x2]], .int d] [.agg [.list (fix1 o3 o2.length 1), intsG sl]] := by
  have hb := branch_impl (op := op) (code := codeOf op) (fl := fldOf op) (by rcases hop with rfl | rfl | rfl <;> simp [codeOf, fldOf]) hb1 ho ho1 ho3 h0 h1 h2
  refine Is.of e140 (hb.mp fun k q1 => ?_)
  rcases hop with rfl | rfl | rfl
  · have ec : codeOf 8 = 18 := rfl
    rw [ec] at q1
    simp (disch := omega) only [F140, nth_0, nth_1, nth_2, fld_agg, toInt_int, eqT, eqF, iff_true', iff_false', q1, Option.bind_some]
  · have ec : codeOf 17 = 10 := rfl
    rw [ec] at q1
    simp (disch := omega) only [F140, nth_0, nth_1, nth_2, fld_agg, toInt_int, eqT, eqF, iff_true', iff_false', q1, Option.bind_some]
  · have ec : codeOf 18 = 11 := rfl
    rw [ec] at q1
    simp (disch := omega) only [F140, nth_0, nth_1, nth_2, fld_agg, toInt_int, eqT, eqF, iff_true', iff_false', q1, Option.bind_some]
end
end Go.Proofs.Ytijgokehlicmnaa.GFnExactGen
