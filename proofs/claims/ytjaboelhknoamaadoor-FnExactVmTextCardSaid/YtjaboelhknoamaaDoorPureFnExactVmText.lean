/- What functions of the program and of the reference come to, for the law FnExactVmText. Each under the conditions that it names. -/
import Derived.Test.YtjaboelhknoamaaDoorBFnExactVmText
namespace Go.Proofs.YtjaboelhknoamaaDoor.GFnExactVmText
open Go Go.Rsc Go.Proofs.YtjaboelhknoamaaDoor
set_option maxRecDepth 100000
set_option linter.unusedVariables false
set_option linter.unusedSimpArgs false
/-! ### A machine, written out -/
theorem wrap_rng (x : Int) : -9223372036854775808 ≤ IntKind.i64.wrap x ∧ IntKind.i64.wrap x < 9223372036854775808 := by
  have h0 := Int.emod_nonneg x (show (18446744073709551616 : Int) ≠ 0 by decide)
  have h1 := Int.emod_lt_of_pos x (show (0 : Int) < 18446744073709551616 by decide)
  simp [IntKind.wrap, IntKind.bits, IntKind.signed]
  split <;> omega
def noneL : List UInt8 := [110, 111, 110, 101]
def codeL (c : Int) : List UInt8 := if c = 0 then [103, 111] else if c = 1 then [104, 97, 108, 116] else if c = 2 then [114, 111, 111, 109] else if c = 3 then [100, 101, 101, 112] else if c = 4 then [102, 97, 105, 108] else if c = 5 then [102, 97, 117, 108, 116] else noneL
theorem codeL_len (c : Int) : (codeL c).length ≤ 5 := by unfold codeL; repeat' split
                                                         all_goals decide
theorem cdGo : (⟨#[103, 111]⟩ : ByteArray) = sB (codeL 0) := rfl
theorem cdHalt : (⟨#[104, 97, 108, 116]⟩ : ByteArray) = sB (codeL 1) := rfl
theorem cdRoom : (⟨#[114, 111, 111, 109]⟩ : ByteArray) = sB (codeL 2) := rfl
theorem cdDeep : (⟨#[100, 101, 101, 112]⟩ : ByteArray) = sB (codeL 3) := rfl
theorem cdFail : (⟨#[102, 97, 105, 108]⟩ : ByteArray) = sB (codeL 4) := rfl
theorem cdFault : (⟨#[102, 97, 117, 108, 116]⟩ : ByteArray) = sB (codeL 5) := rfl
theorem cdNone : (⟨#[110, 111, 110, 101]⟩ : ByteArray) = sB noneL := rfl
theorem bt32 : (⟨#[32]⟩ : ByteArray) = sB [32] := rfl
theorem btOut : (⟨#[32, 111, 117, 116]⟩ : ByteArray) = sB [32, 111, 117, 116] := rfl
theorem okR5 : okR 0 0 5 = true ∧ okR 1 0 5 = true ∧ okR 2 0 5 = true ∧ okR 3 0 5 = true ∧ okR 4 0 5 = true ∧ okR 5 0 5 = true := by decide
theorem tn5 : Int.toNat 0 = 0 ∧ Int.toNat 1 = 1 ∧ Int.toNat 2 = 2 ∧ Int.toNat 3 = 3 ∧ Int.toNat 4 = 4 ∧ Int.toNat 5 = 5 := by decide
def headL (wd : List UInt8) (a b c : Int) : List UInt8 := wd ++ [32] ++ Lib.itoa a ++ [32] ++ Lib.itoa b ++ [32] ++ Lib.itoa c ++ [32, 111, 117, 116]
def outL (S : List Int) : List UInt8 := (S.map fun n => 32 :: Lib.itoa n).flatten
theorem outL_succ {S : List Int} {k : Nat} (h : k < S.length) : outL (S.take (k + 1)) = outL (S.take k) ++ ([32] ++ Lib.itoa (S.getD k 0)) := by
  have e : S.take (k + 1) = S.take k ++ [S.getD k 0] := by
    rw [List.take_add_one, List.getElem?_eq_getElem h]
    simp [List.getD_eq_getElem?_getD, h]
  unfold outL
  rw [e]
  simp
theorem outL_len {S : List Int} (hr : rng S) : (outL S).length ≤ 22 * S.length := by
  induction S with
  | nil => simp [outL]
  | cons x S ih =>
    have h1 := itoa_len (hr x (by simp)).1 (hr x (by simp)).2
    have h2 := ih fun w hw => hr w (by simp [hw])
    unfold outL at *
    simp at *
    omega
section
variable {S : List Int} {hd : List UInt8}
theorem outI (hr : rng S) (hl : S.length ≤ 1048576) (hh : hd.length ≤ 1000) : Evt fun n => loopEv (L25_0 (ev Tryd.prog sg n) n) n [.int (0 : Int), .int ((S.map PV.int).length : Int), .list (S.map PV.int), .str (sB hd)] = some (.x 0, [.str (sB (hd ++ outL S))]) := by
  have hlen : ((S.map PV.int).length : Int) = S.length := by simp
  have h0 : ([.int (0 : Int), .int ((S.map PV.int).length : Int), .list (S.map PV.int), .str (sB hd)] : List PV) = [.int ((0 : Nat) : Int), .int (S.length : Int), .list (S.map PV.int), .str (sB (hd ++ outL (S.take 0)))] := by simp [outL]
  rw [h0]
  refine loop_run (fun k => [.int ((k : Nat) : Int), .int (S.length : Int), .list (S.map PV.int), .str (sB (hd ++ outL (S.take k)))]) S.length (fun k hk => ?_) (Evt.all fun n => ?_) (by decide)
  · refine (digI (rng_at hr hk).1 (rng_at hr hk).2).mp fun n hd' => ?_
    have h1 := itoa_len (rng_at hr hk).1 (rng_at hr hk).2
    have h2 := outL_len (rng_take hr k)
    have h3 : (S.take k).length ≤ 1048576 := by simp; omega
    have c1 : ltI (k : Int) S.length = true := ltT (by omega)
    have c2 : geI (k : Int) 0 = true := geT (by omega)
    have w1 : IntKind.i64.wrap ((k : Int) + 1) = ((k + 1 : Nat) : Int) := by rw [wrap64 (by omega) (by omega)]; omega
    have hk' : ((k : Int)).toNat = k := by omega
    have c4 : leI ((sB ([32] ++ Lib.itoa (S.getD k 0))).size : Int) 9223372036854775807 = true := leT (by simp only [size_sB, List.length_append, List.length_cons, List.length_nil]; omega)
    have c5 : leI ((sB (hd ++ outL (S.take k) ++ ([32] ++ Lib.itoa (S.getD k 0)))).size : Int) 9223372036854775807 = true := leT (by simp only [size_sB, List.length_append, List.length_cons, List.length_nil]; omega)
    simp only [L25_0, nth_0, nth_1, nth_2, nth_3, toInt_int, toList_list, hlen, c1, iff_true', c2, hk', nth_int hk, hd', Option.bind_some, dgB, toStr_str, bt32, catB_sB, c4, c5, w1]
    rw [outL_succ hk, List.append_assoc]
  · have c1 : ltI (S.length : Int) S.length = false := ltF (by omega)
    simp only [L25_0, nth_0, nth_1, nth_2, nth_3, toInt_int, c1, iff_false', List.take_length]
theorem outS {vm : PV} (hv : vm.fld 4 = .list (S.map PV.int)) (hr : rng S) (hl : S.length ≤ 1048576) (hh : hd.length ≤ 1000) : Evt fun n => loopEv (L23_0 (ev Tryd.prog sg n) n) n [.int (0 : Int), .str (sB hd), vm] = some (.x 0, [.str (sB (hd ++ outL S))]) := by
  have hlen : ((S.map PV.int).length : Int) = S.length := by simp
  have h0 : ([.int (0 : Int), .str (sB hd), vm] : List PV) = [.int ((0 : Nat) : Int), .str (sB (hd ++ outL (S.take 0))), vm] := by simp [outL]
  rw [h0]
  refine loop_run (fun k => [.int ((k : Nat) : Int), .str (sB (hd ++ outL (S.take k))), vm]) S.length (fun k hk => ?_) (Evt.all fun n => ?_) (by decide)
  · refine (digS (rng_at hr hk).1 (rng_at hr hk).2).mp fun n hd' => ?_
    have h1 := itoa_len (rng_at hr hk).1 (rng_at hr hk).2
    have h2 := outL_len (rng_take hr k)
    have h3 : (S.take k).length ≤ 1048576 := by simp; omega
    have c1 : ltI (k : Int) S.length = true := ltT (by omega)
    have c2 : geI (k : Int) 0 = true := geT (by omega)
    have w1 : IntKind.i64.wrap ((k : Int) + 1) = ((k + 1 : Nat) : Int) := by rw [wrap64 (by omega) (by omega)]; omega
    have hk' : ((k : Int)).toNat = k := by omega
    have c4 : leI ((sB (hd ++ outL (S.take k) ++ [32])).size : Int) 9223372036854775807 = true := leT (by simp only [size_sB, List.length_append, List.length_cons, List.length_nil]; omega)
    have c5 : leI ((sB (hd ++ outL (S.take k) ++ [32] ++ Lib.itoa (S.getD k 0))).size : Int) 9223372036854775807 = true := leT (by simp only [size_sB, List.length_append, List.length_cons, List.length_nil]; omega)
    simp only [L23_0, nth_0, nth_1, nth_2, toInt_int, hv, toList_list, hlen, c1, iff_true', c2, hk', nth_int hk, hd', Option.bind_some, dgB, toStr_str, bt32, catB_sB, c4, c5, w1]
    rw [outL_succ hk]
    simp only [List.append_assoc]
  · have c1 : ltI (S.length : Int) S.length = false := ltF (by omega)
    simp only [L23_0, nth_0, nth_1, nth_2, toInt_int, hv, toList_list, hlen, c1, iff_false', List.take_length]
end
section
variable {x0 : PV} {W : List Int} {half base next : Int} {l2 l3 : List PV} {S : List Int} {code : Int} {each : PV} {rm : Int}
theorem vmTI (hR : Rn 52 [heapV W half base next] [.int rm]) (hrm : -9223372036854775808 ≤ rm ∧ rm < 9223372036854775808) (h2 : l2.length ≤ 1048576) (h3 : l3.length ≤ 1048576) (hr : rng S) (hl : S.length ≤ 1048576) :
    Rn 25 [.agg [x0, heapV W half base next, .list l2, .list l3, .list (S.map PV.int), .int code, each]] [.str (sB (headL (codeL code) l3.length l2.length rm ++ outL S))] := by
  generalize hp : PV.agg [x0, heapV W half base next, .list l2, .list l3, .list (S.map PV.int), .int code, each] = p
  have f1 : p.fld 1 = heapV W half base next := by rw [← hp]; rfl
  have f2 : p.fld 2 = .list l2 := by rw [← hp]; rfl
  have f3 : p.fld 3 = .list l3 := by rw [← hp]; rfl
  have f4 : p.fld 4 = .list (S.map PV.int) := by rw [← hp]; rfl
  have f5 : p.fld 5 = .int code := by rw [← hp]; rfl
  have a1 := itoa_len (n := (l3.length : Int)) (by omega) (by omega)
  have a2 := itoa_len (n := (l2.length : Int)) (by omega) (by omega)
  have a3 := itoa_len hrm.1 hrm.2
  have lw := codeL_len code
  have hlo := outI (hd := headL (codeL code) l3.length l2.length rm) hr hl (by unfold headL; simp only [List.length_append, List.length_cons, List.length_nil]; omega)
  refine Is.of e25 (Evt.mp5 (is54 code 0 5) (digI (n := (l3.length : Int)) (by omega) (by omega)) (digI (n := (l2.length : Int)) (by omega) (by omega)) (hR.and (digI hrm.1 hrm.2)) hlo fun m r1 r2 r3 r45 r6 => ?_)
  obtain ⟨r4, r5⟩ := r45
  by_cases k0 : code = 0
  · subst k0
    simp (disch := (first | omega | (simp only [size_sB, List.length_append, List.length_cons, List.length_nil]; omega))) only [F25, nth_0, nth_1, nth_2, nth_3, nth_4, nth_5, f1, f2, f3, f4, f5, toInt_int, toStr_str, toList_list, r1, r2, r3, r4, r5, Option.bind_some, toBool_bool, okR5, iff_true', iff_false', thenN_n, thenE_some, passB_same, geT, ltT, leT, dgB, catB_sB, bt32, btOut, cdGo, cdHalt, cdRoom, cdDeep, cdFail, cdFault, List.length_cons, List.length_nil, tn5]
    simp only [headL] at r6
    simp only [r6, thenE_some, passB_same, thenN_n, nth_0, headL]
  by_cases k1 : code = 1
  · subst k1
    simp (disch := (first | omega | (simp only [size_sB, List.length_append, List.length_cons, List.length_nil]; omega))) only [F25, nth_0, nth_1, nth_2, nth_3, nth_4, nth_5, f1, f2, f3, f4, f5, toInt_int, toStr_str, toList_list, r1, r2, r3, r4, r5, Option.bind_some, toBool_bool, okR5, iff_true', iff_false', thenN_n, thenE_some, passB_same, geT, ltT, leT, dgB, catB_sB, bt32, btOut, cdGo, cdHalt, cdRoom, cdDeep, cdFail, cdFault, List.length_cons, List.length_nil, tn5]
    simp only [headL] at r6
    simp only [r6, thenE_some, passB_same, thenN_n, nth_0, headL]
  by_cases k2 : code = 2
  · subst k2
    simp (disch := (first | omega | (simp only [size_sB, List.length_append, List.length_cons, List.length_nil]; omega))) only [F25, nth_0, nth_1, nth_2, nth_3, nth_4, nth_5, f1, f2, f3, f4, f5, toInt_int, toStr_str, toList_list, r1, r2, r3, r4, r5, Option.bind_some, toBool_bool, okR5, iff_true', iff_false', thenN_n, thenE_some, passB_same, geT, ltT, leT, dgB, catB_sB, bt32, btOut, cdGo, cdHalt, cdRoom, cdDeep, cdFail, cdFault, List.length_cons, List.length_nil, tn5]
    simp only [headL] at r6
    simp only [r6, thenE_some, passB_same, thenN_n, nth_0, headL]
  by_cases k3 : code = 3
  · subst k3
    simp (disch := (first | omega | (simp only [size_sB, List.length_append, List.length_cons, List.length_nil]; omega))) only [F25, nth_0, nth_1, nth_2, nth_3, nth_4, nth_5, f1, f2, f3, f4, f5, toInt_int, toStr_str, toList_list, r1, r2, r3, r4, r5, Option.bind_some, toBool_bool, okR5, iff_true', iff_false', thenN_n, thenE_some, passB_same, geT, ltT, leT, dgB, catB_sB, bt32, btOut, cdGo, cdHalt, cdRoom, cdDeep, cdFail, cdFault, List.length_cons, List.length_nil, tn5]
    simp only [headL] at r6
    simp only [r6, thenE_some, passB_same, thenN_n, nth_0, headL]
  by_cases k4 : code = 4
  · subst k4
    simp (disch := (first | omega | (simp only [size_sB, List.length_append, List.length_cons, List.length_nil]; omega))) only [F25, nth_0, nth_1, nth_2, nth_3, nth_4, nth_5, f1, f2, f3, f4, f5, toInt_int, toStr_str, toList_list, r1, r2, r3, r4, r5, Option.bind_some, toBool_bool, okR5, iff_true', iff_false', thenN_n, thenE_some, passB_same, geT, ltT, leT, dgB, catB_sB, bt32, btOut, cdGo, cdHalt, cdRoom, cdDeep, cdFail, cdFault, List.length_cons, List.length_nil, tn5]
    simp only [headL] at r6
    simp only [r6, thenE_some, passB_same, thenN_n, nth_0, headL]
  by_cases k5 : code = 5
  · subst k5
    simp (disch := (first | omega | (simp only [size_sB, List.length_append, List.length_cons, List.length_nil]; omega))) only [F25, nth_0, nth_1, nth_2, nth_3, nth_4, nth_5, f1, f2, f3, f4, f5, toInt_int, toStr_str, toList_list, r1, r2, r3, r4, r5, Option.bind_some, toBool_bool, okR5, iff_true', iff_false', thenN_n, thenE_some, passB_same, geT, ltT, leT, dgB, catB_sB, bt32, btOut, cdGo, cdHalt, cdRoom, cdDeep, cdFail, cdFault, List.length_cons, List.length_nil, tn5]
    simp only [headL] at r6
    simp only [r6, thenE_some, passB_same, thenN_n, nth_0, headL]
  have c0 : okR code 0 5 = false := by simp [okR]; omega
  have c1 : codeL code = noneL := by simp [codeL, k0, k1, k2, k3, k4, k5]
  rw [c0] at r1
  rw [c1] at r6 lw ⊢
  simp (disch := (first | omega | (simp only [size_sB, List.length_append, List.length_cons, List.length_nil]; omega))) only [F25, nth_0, nth_1, nth_2, nth_3, nth_4, nth_5, f1, f2, f3, f4, f5, toInt_int, toStr_str, toList_list, r1, r2, r3, r4, r5, Option.bind_some, toBool_bool, okR5, iff_true', iff_false', thenN_n, thenE_some, passB_same, geT, ltT, leT, dgB, catB_sB, bt32, btOut, cdNone, List.length_cons, List.length_nil, tn5]
  simp only [headL] at r6
  simp only [r6, thenE_some, passB_same, thenN_n, nth_0, headL]
theorem vmTS (hR : Rn 48 [heapV W half base next] [.int rm]) (hrm : -9223372036854775808 ≤ rm ∧ rm < 9223372036854775808) (h2 : l2.length ≤ 1048576) (h3 : l3.length ≤ 1048576) (hr : rng S) (hl : S.length ≤ 1048576) :
    Rn 23 [.agg [x0, heapV W half base next, .list l2, .list l3, .list (S.map PV.int), .int code, each]] [.str (sB (headL (codeL code) l3.length l2.length rm ++ outL S))] := by
  generalize hp : PV.agg [x0, heapV W half base next, .list l2, .list l3, .list (S.map PV.int), .int code, each] = p
  have f1 : p.fld 1 = heapV W half base next := by rw [← hp]; rfl
  have f2 : p.fld 2 = .list l2 := by rw [← hp]; rfl
  have f3 : p.fld 3 = .list l3 := by rw [← hp]; rfl
  have f4 : p.fld 4 = .list (S.map PV.int) := by rw [← hp]; rfl
  have f5 : p.fld 5 = .int code := by rw [← hp]; rfl
  have a1 := itoa_len (n := (l3.length : Int)) (by omega) (by omega)
  have a2 := itoa_len (n := (l2.length : Int)) (by omega) (by omega)
  have a3 := itoa_len hrm.1 hrm.2
  have lw := codeL_len code
  have hlo := outS (vm := p) (hd := headL (codeL code) l3.length l2.length rm) f4 hr hl (by unfold headL; simp only [List.length_append, List.length_cons, List.length_nil]; omega)
  refine Is.of e23 (Evt.mp5 (is51 code 0 5) (digS (n := (l3.length : Int)) (by omega) (by omega)) (digS (n := (l2.length : Int)) (by omega) (by omega)) (hR.and (digS hrm.1 hrm.2)) hlo fun m r1 r2 r3 r45 r6 => ?_)
  obtain ⟨r4, r5⟩ := r45
  by_cases k0 : code = 0
  · subst k0
    simp (disch := (first | omega | (simp only [size_sB, List.length_append, List.length_cons, List.length_nil]; omega))) only [F23, nth_0, nth_1, nth_2, nth_3, nth_4, nth_5, f1, f2, f3, f4, f5, toInt_int, toStr_str, toList_list, r1, r2, r3, r4, r5, Option.bind_some, toBool_bool, okR5, iff_true', iff_false', thenN_n, thenE_some, passB_same, geT, ltT, leT, dgB, catB_sB, bt32, btOut, cdGo, cdHalt, cdRoom, cdDeep, cdFail, cdFault, List.length_cons, List.length_nil, tn5]
    simp only [headL] at r6
    simp only [r6, thenE_some, passB_same, thenN_n, nth_0, headL]
  by_cases k1 : code = 1
  · subst k1
    simp (disch := (first | omega | (simp only [size_sB, List.length_append, List.length_cons, List.length_nil]; omega))) only [F23, nth_0, nth_1, nth_2, nth_3, nth_4, nth_5, f1, f2, f3, f4, f5, toInt_int, toStr_str, toList_list, r1, r2, r3, r4, r5, Option.bind_some, toBool_bool, okR5, iff_true', iff_false', thenN_n, thenE_some, passB_same, geT, ltT, leT, dgB, catB_sB, bt32, btOut, cdGo, cdHalt, cdRoom, cdDeep, cdFail, cdFault, List.length_cons, List.length_nil, tn5]
    simp only [headL] at r6
    simp only [r6, thenE_some, passB_same, thenN_n, nth_0, headL]
  by_cases k2 : code = 2
  · subst k2
    simp (disch := (first | omega | (simp only [size_sB, List.length_append, List.length_cons, List.length_nil]; omega))) only [F23, nth_0, nth_1, nth_2, nth_3, nth_4, nth_5, f1, f2, f3, f4, f5, toInt_int, toStr_str, toList_list, r1, r2, r3, r4, r5, Option.bind_some, toBool_bool, okR5, iff_true', iff_false', thenN_n, thenE_some, passB_same, geT, ltT, leT, dgB, catB_sB, bt32, btOut, cdGo, cdHalt, cdRoom, cdDeep, cdFail, cdFault, List.length_cons, List.length_nil, tn5]
    simp only [headL] at r6
    simp only [r6, thenE_some, passB_same, thenN_n, nth_0, headL]
  by_cases k3 : code = 3
  · subst k3
    simp (disch := (first | omega | (simp only [size_sB, List.length_append, List.length_cons, List.length_nil]; omega))) only [F23, nth_0, nth_1, nth_2, nth_3, nth_4, nth_5, f1, f2, f3, f4, f5, toInt_int, toStr_str, toList_list, r1, r2, r3, r4, r5, Option.bind_some, toBool_bool, okR5, iff_true', iff_false', thenN_n, thenE_some, passB_same, geT, ltT, leT, dgB, catB_sB, bt32, btOut, cdGo, cdHalt, cdRoom, cdDeep, cdFail, cdFault, List.length_cons, List.length_nil, tn5]
    simp only [headL] at r6
    simp only [r6, thenE_some, passB_same, thenN_n, nth_0, headL]
  by_cases k4 : code = 4
  · subst k4
    simp (disch := (first | omega | (simp only [size_sB, List.length_append, List.length_cons, List.length_nil]; omega))) only [F23, nth_0, nth_1, nth_2, nth_3, nth_4, nth_5, f1, f2, f3, f4, f5, toInt_int, toStr_str, toList_list, r1, r2, r3, r4, r5, Option.bind_some, toBool_bool, okR5, iff_true', iff_false', thenN_n, thenE_some, passB_same, geT, ltT, leT, dgB, catB_sB, bt32, btOut, cdGo, cdHalt, cdRoom, cdDeep, cdFail, cdFault, List.length_cons, List.length_nil, tn5]
    simp only [headL] at r6
    simp only [r6, thenE_some, passB_same, thenN_n, nth_0, headL]
  by_cases k5 : code = 5
  · subst k5
    simp (disch := (first | omega | (simp only [size_sB, List.length_append, List.length_cons, List.length_nil]; omega))) only [F23, nth_0, nth_1, nth_2, nth_3, nth_4, nth_5, f1, f2, f3, f4, f5, toInt_int, toStr_str, toList_list, r1, r2, r3, r4, r5, Option.bind_some, toBool_bool, okR5, iff_true', iff_false', thenN_n, thenE_some, passB_same, geT, ltT, leT, dgB, catB_sB, bt32, btOut, cdGo, cdHalt, cdRoom, cdDeep, cdFail, cdFault, List.length_cons, List.length_nil, tn5]
    simp only [headL] at r6
    simp only [r6, thenE_some, passB_same, thenN_n, nth_0, headL]
  have c0 : okR code 0 5 = false := by simp [okR]; omega
  have c1 : codeL code = noneL := by simp [codeL, k0, k1, k2, k3, k4, k5]
  rw [c0] at r1
  rw [c1] at r6 lw ⊢
  simp (disch := (first | omega | (simp only [size_sB, List.length_append, List.length_cons, List.length_nil]; omega))) only [F23, nth_0, nth_1, nth_2, nth_3, nth_4, nth_5, f1, f2, f3, f4, f5, toInt_int, toStr_str, toList_list, r1, r2, r3, r4, r5, Option.bind_some, toBool_bool, okR5, iff_true', iff_false', thenN_n, thenE_some, passB_same, geT, ltT, leT, dgB, catB_sB, bt32, btOut, cdNone, List.length_cons, List.length_nil, tn5]
  simp only [headL] at r6
  simp only [r6, thenE_some, passB_same, thenN_n, nth_0, headL]
end
theorem law {p : PV} (h : WfT Tryd.prog 58 p) : Rn 6 [p] [.bool true] := by
  have hsz := sz_22 h (x := 1048576) (by omega) (by omega)
  by_cases hneg : szR 1048576 p.wt < 0
  · refine Is.of e6 (hsz.mp fun n h1 => ?_)
    simp [F6, h1, ltT hneg]
  have hw : p.wt ≤ 1048576 := by have := mt (szR_neg (x := 1048576) (w := p.wt) (by omega)).2 hneg; omega
  have hto := to_24 h hw
  have heqa := eq_26 h
  obtain ⟨t, hi, hs⟩ : ∃ t, Rn 25 [p] [.str (sB t)] ∧ Rn 23 [p] [.str (sB t)] := by
    obtain ⟨x0, x1, x2, x3, x4, code, each, rfl, h0, h1, h2, h3, h4, _⟩ := wf58 h
    obtain ⟨y0, half, base, next, rfl, g0, gh, gb, gn⟩ := wf55 h1
    obtain ⟨W, rfl, hW⟩ := intsOf g0
    obtain ⟨S, rfl, hS⟩ := intsOf h4
    obtain ⟨l2, rfl, _, _⟩ := wf_slice (e := 3) (by kernel_rfl) h2
    obtain ⟨l3, rfl, _, _⟩ := wf_slice (e := 114) (by kernel_rfl) h3
    simp [wts_ints] at hw
    have hrm : ∀ b : Bool, -9223372036854775808 ≤ (if b then IntKind.i64.wrap (IntKind.i64.wrap (base + half) - next) else 0) ∧ (if b then IntKind.i64.wrap (IntKind.i64.wrap (base + half) - next) else 0) < 9223372036854775808 := by
      intro b
      have := wrap_rng (IntKind.i64.wrap (base + half) - next)
      cases b <;> simp <;> omega
    exact ⟨_, vmTI (roomI (half := half) (base := base) (next := next) (W := W) (by omega)) (hrm _) (by omega) (by omega) hS (by omega), vmTS (roomS (half := half) (base := base) (next := next) (W := W) (by omega) hW) (hrm _) (by omega) (by omega) hS (by omega)⟩
  refine Is.of e6 ((Evt.and (hsz.and (hto.and heqa)) (hi.and hs)).mp fun n h1 => ?_)
  obtain ⟨⟨h1, h2, h3⟩, h4, h5⟩ := h1
  have hge : 0 ≤ szR 1048576 p.wt := Int.not_lt.1 hneg
  simp (disch := omega) [F6, h1, h2, h3, h4, h5, ltF]
theorem pure_law (ps : List PV) (hl : ps.length = 1) (hwf : ∀ (j : Nat) t p, [58][j]? = some t → ps[j]? = some p → WfT Tryd.prog t p) : ∃ n, ev Tryd.prog sg n 6 ps = some [.bool true] := by
  obtain ⟨p, rfl⟩ := List.length_eq_one_iff.1 hl
  exact (law (hwf 0 58 p rfl rfl)).get
end Go.Proofs.YtjaboelhknoamaaDoor.GFnExactVmText
