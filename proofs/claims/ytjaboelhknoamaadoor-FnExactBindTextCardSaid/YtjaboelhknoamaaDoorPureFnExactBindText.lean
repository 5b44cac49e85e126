/- What functions of the program and of the reference come to, for the law FnExactBindText. Each under the conditions that it names. -/
import Derived.Test.YtjaboelhknoamaaDoorBFnExactBindText
namespace Go.Proofs.YtjaboelhknoamaaDoor.GFnExactBindText
open Go Go.Rsc Go.Proofs.YtjaboelhknoamaaDoor
set_option maxRecDepth 100000
set_option linter.unusedVariables false
set_option linter.unusedSimpArgs false
/-! ### A bind, written out -/
def kindL (k : Int) : List UInt8 := if k = 1 then [118, 97, 114] else if k = 2 then [102, 111, 114, 109] else if k = 3 then [109, 97, 99, 114, 111] else [110, 111, 110, 101]
def bindL (nm : List UInt8) (S : List Int) (wd : List UInt8) (n at_ : Int) : List UInt8 := nm ++ 123 :: (setL S ++ [125]) ++ [32] ++ wd ++ [32] ++ Lib.itoa n ++ [32] ++ Lib.itoa at_
theorem bt32 : (⟨#[32]⟩ : ByteArray) = sB [32] := rfl
theorem btVar : (⟨#[118, 97, 114]⟩ : ByteArray) = sB [118, 97, 114] := rfl
theorem btForm : (⟨#[102, 111, 114, 109]⟩ : ByteArray) = sB [102, 111, 114, 109] := rfl
theorem btMacro : (⟨#[109, 97, 99, 114, 111]⟩ : ByteArray) = sB [109, 97, 99, 114, 111] := rfl
theorem btNone : (⟨#[110, 111, 110, 101]⟩ : ByteArray) = sB [110, 111, 110, 101] := rfl
theorem okR1 : okR 1 1 3 = true ∧ okR 2 1 3 = true ∧ okR 3 1 3 = true := by decide
theorem wk1 : IntKind.i64.wrap (1 - 1) = 0 ∧ IntKind.i64.wrap (2 - 1) = 1 ∧ IntKind.i64.wrap (3 - 1) = 2 := by decide
theorem tn : Int.toNat 0 = 0 ∧ Int.toNat 1 = 1 ∧ Int.toNat 2 = 2 ∧ Int.toNat 3 = 3 := by decide
section
variable {nm : List UInt8} {S : List Int} {k n at_ : Int}
theorem bindS (h1 : nm.length ≤ 1048576) (h2 : rng S) (h3 : S.length ≤ 1048576) (h5 : -9223372036854775808 ≤ n ∧ n < 9223372036854775808) (h6 : -9223372036854775808 ≤ at_ ∧ at_ < 9223372036854775808) :
    Rn 13 [.agg [.str (sB nm), .list (S.map PV.int), .int k, .int n, .int at_]] [.str (sB (bindL nm S (kindL k) n at_))] := by
  have l1 := setL_len h2
  have l3 := itoa_len h5.1 h5.2
  have l4 := itoa_len h6.1 h6.2
  refine Is.of e13 (Evt.mp4 (is51 k 1 3) (setS h2 h3) (digS h5.1 h5.2) (digS h6.1 h6.2) fun m r1 r2 r3 r4 => ?_)
  by_cases k1 : k = 1
  · subst k1
    simp (disch := ((try simp only [size_sB, List.length_append, List.length_cons, List.length_nil]); omega)) only [F13, nth_0, nth_1, nth_2, nth_3, nth_4, fld_agg, toInt_int, toStr_str, r1, r2, r3, r4, Option.bind_some, toBool_bool, okR1, iff_true', thenN_n, geT, ltT, leT, setP, dgB, catB_sB, bt32, btVar, btForm, btMacro, bindL, kindL, if_true, List.length_cons, List.length_nil, tn, wk1] <;> rfl
  by_cases k2 : k = 2
  · subst k2
    simp (disch := ((try simp only [size_sB, List.length_append, List.length_cons, List.length_nil]); omega)) only [F13, nth_0, nth_1, nth_2, nth_3, nth_4, fld_agg, toInt_int, toStr_str, r1, r2, r3, r4, Option.bind_some, toBool_bool, okR1, iff_true', thenN_n, geT, ltT, leT, setP, dgB, catB_sB, bt32, btVar, btForm, btMacro, bindL, kindL, if_true, List.length_cons, List.length_nil, tn, wk1] <;> rfl
  by_cases k3 : k = 3
  · subst k3
    simp (disch := ((try simp only [size_sB, List.length_append, List.length_cons, List.length_nil]); omega)) only [F13, nth_0, nth_1, nth_2, nth_3, nth_4, fld_agg, toInt_int, toStr_str, r1, r2, r3, r4, Option.bind_some, toBool_bool, okR1, iff_true', thenN_n, geT, ltT, leT, setP, dgB, catB_sB, bt32, btVar, btForm, btMacro, bindL, kindL, if_true, List.length_cons, List.length_nil, tn, wk1] <;> rfl
  have c0 : okR k 1 3 = false := by simp [okR]; omega
  have c1 : kindL k = [110, 111, 110, 101] := by simp [kindL, k1, k2, k3]
  rw [c0] at r1
  simp (disch := ((try simp only [size_sB, List.length_append, List.length_cons, List.length_nil]); omega)) only [F13, nth_0, nth_1, nth_2, nth_3, nth_4, fld_agg, toInt_int, toStr_str, r1, r2, r3, r4, Option.bind_some, toBool_bool, iff_true', iff_false', thenN_n, leT, setP, dgB, catB_sB, bt32, btNone, bindL, c1]
theorem bindI (h1 : nm.length ≤ 1048576) (h2 : rng S) (h3 : S.length ≤ 1048576) (h5 : -9223372036854775808 ≤ n ∧ n < 9223372036854775808) (h6 : -9223372036854775808 ≤ at_ ∧ at_ < 9223372036854775808) :
    Rn 15 [.agg [.str (sB nm), .list (S.map PV.int), .int k, .int n, .int at_]] [.str (sB (bindL nm S (kindL k) n at_))] := by
  have l1 := setL_len h2
  have l3 := itoa_len h5.1 h5.2
  have l4 := itoa_len h6.1 h6.2
  refine Is.of e15 (Evt.mp4 (is54 k 1 3) (setI h2 h3) (digI h5.1 h5.2) (digI h6.1 h6.2) fun m r1 r2 r3 r4 => ?_)
  by_cases k1 : k = 1
  · subst k1
    simp (disch := ((try simp only [size_sB, List.length_append, List.length_cons, List.length_nil]); omega)) only [F15, nth_0, nth_1, nth_2, nth_3, nth_4, fld_agg, toInt_int, toStr_str, r1, r2, r3, r4, Option.bind_some, toBool_bool, okR1, iff_true', thenN_n, geT, ltT, leT, setP, dgB, catB_sB, bt32, btVar, btForm, btMacro, bindL, kindL, if_true, List.length_cons, List.length_nil, tn, wk1] <;> rfl
  by_cases k2 : k = 2
  · subst k2
    simp (disch := ((try simp only [size_sB, List.length_append, List.length_cons, List.length_nil]); omega)) only [F15, nth_0, nth_1, nth_2, nth_3, nth_4, fld_agg, toInt_int, toStr_str, r1, r2, r3, r4, Option.bind_some, toBool_bool, okR1, iff_true', thenN_n, geT, ltT, leT, setP, dgB, catB_sB, bt32, btVar, btForm, btMacro, bindL, kindL, if_true, List.length_cons, List.length_nil, tn, wk1] <;> rfl
  by_cases k3 : k = 3
  · subst k3
    simp (disch := ((try simp only [size_sB, List.length_append, List.length_cons, List.length_nil]); omega)) only [F15, nth_0, nth_1, nth_2, nth_3, nth_4, fld_agg, toInt_int, toStr_str, r1, r2, r3, r4, Option.bind_some, toBool_bool, okR1, iff_true', thenN_n, geT, ltT, leT, setP, dgB, catB_sB, bt32, btVar, btForm, btMacro, bindL, kindL, if_true, List.length_cons, List.length_nil, tn, wk1] <;> rfl
  have c0 : okR k 1 3 = false := by simp [okR]; omega
  have c1 : kindL k = [110, 111, 110, 101] := by simp [kindL, k1, k2, k3]
  rw [c0] at r1
  simp (disch := ((try simp only [size_sB, List.length_append, List.length_cons, List.length_nil]); omega)) only [F15, nth_0, nth_1, nth_2, nth_3, nth_4, fld_agg, toInt_int, toStr_str, r1, r2, r3, r4, Option.bind_some, toBool_bool, iff_true', iff_false', thenN_n, leT, setP, dgB, catB_sB, bt32, btNone, bindL, c1]
end
theorem law {p : PV} (h : WfT Tryd.prog 35 p) : Rn 4 [p] [.bool true] := by
  have hsz := sz_12 h (x := 1048576) (by omega) (by omega)
  by_cases hneg : szR 1048576 p.wt < 0
  · refine Is.of e4 (hsz.mp fun n h1 => ?_)
    simp [F4, h1, ltT hneg]
  have hw : p.wt ≤ 1048576 := by have := mt (szR_neg (x := 1048576) (w := p.wt) (by omega)).2 hneg; omega
  have hto := to_14 h hw
  have heqa := eq_16 h
  obtain ⟨x0, x1, x2, x3, x4, rfl, h0, h1, h2, h3, h4⟩ := wf35 h
  obtain ⟨S, rfl, hr⟩ := intsOf h1
  obtain ⟨nm, rfl⟩ : ∃ l, x0 = sB l := ⟨_, (sB_data _).symm⟩
  have hw' := hw
  simp [wts_ints] at hw'
  have hs := bindS (nm := nm) (S := S) (k := x2) (n := x3) (at_ := x4) (by omega) hr (by omega) h3 h4
  have hi := bindI (nm := nm) (S := S) (k := x2) (n := x3) (at_ := x4) (by omega) hr (by omega) h3 h4
  refine Is.of e4 ((Evt.and (hsz.and (hto.and heqa)) (hi.and hs)).mp fun n h1 => ?_)
  obtain ⟨⟨h1, h2, h3⟩, h4, h5⟩ := h1
  have hge : 0 ≤ szR 1048576 (PV.agg [PV.str (sB nm), PV.list (S.map PV.int), PV.int x2, PV.int x3, PV.int x4]).wt := Int.not_lt.1 hneg
  generalize PV.agg [PV.str (sB nm), PV.list (S.map PV.int), PV.int x2, PV.int x3, PV.int x4] = q at *
  simp (disch := omega) [F4, h1, h2, h3, h4, h5, ltF]
theorem pure_law (ps : List PV) (hl : ps.length = 1) (hwf : ∀ (j : Nat) t p, [35][j]? = some t → ps[j]? = some p → WfT Tryd.prog t p) : ∃ n, ev Tryd.prog sg n 4 ps = some [.bool true] := by
  obtain ⟨p, rfl⟩ := List.length_eq_one_iff.1 hl
  exact (law (hwf 0 35 p rfl rfl)).get
end Go.Proofs.YtjaboelhknoamaaDoor.GFnExactBindText
