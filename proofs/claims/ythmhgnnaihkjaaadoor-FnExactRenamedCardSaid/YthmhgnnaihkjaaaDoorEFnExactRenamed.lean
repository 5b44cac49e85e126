/- What functions of the program and of the reference come to, for the law FnExactRenamed. Each under the conditions that it names. -/
import Derived.Test.YthmhgnnaihkjaaaDoorDFnExactRenamed
namespace Go.Proofs.YthmhgnnaihkjaaaDoor.GFnExactRenamed
open Go Go.Rsc Go.Proofs.YthmhgnnaihkjaaaDoor
set_option maxRecDepth 100000
set_option linter.unusedVariables false
set_option linter.unusedSimpArgs false
/-! ### Tokens -/
theorem atoiI {t : List UInt8} (h : t.length ≤ 100000) : Rn 86 [.str (sB t)] (atoiR t) := orc_is (s := atoiSig) rfl rfl (by
  show (if Nat.ble (sB t).size 281474976710656 = true then some (atoiR (sB t).data.toList) else none) = some (atoiR t)
  rw [if_pos (Nat.ble_eq_true_of_le (by rw [size_sB]; omega)), toList_sB])
abbrev tokV (k : Int) (at_ n : Int) (t : List UInt8) : PV := .agg [.int k, .int at_, .int n, .str (sB t)]
theorem otO : (⟨#[40]⟩ : ByteArray) = sB [40] := rfl
theorem otC : (⟨#[41]⟩ : ByteArray) = sB [41] := rfl
theorem otSep : (⟨#[32, 10, 40, 41]⟩ : ByteArray) = sB [32, 10, 40, 41] := rfl
theorem parenI (at_ : Int) : Rn 76 [.str (sB [40]), .int at_] [tokV 1 at_ 0 [40], .bool true] ∧ Rn 76 [.str (sB [41]), .int at_] [tokV 2 at_ 0 [41], .bool true] := by
  have c1 : cmpS BinOp.eql (sB [40]) (sB [40]) = true := by rw [cmpE]; rfl
  have c2 : cmpS BinOp.eql (sB [41]) (sB [40]) = false := by rw [cmpE]; rfl
  have c3 : cmpS BinOp.eql (sB [41]) (sB [41]) = true := by rw [cmpE]; rfl
  exact ⟨Is.of e76 (Evt.all fun n => by simp only [F76, nth_0, nth_1, toStr_str, otO, c1, iff_true']),
    Is.of e76 (Evt.all fun n => by simp only [F76, nth_0, nth_1, toStr_str, otO, otC, c2, c3, iff_true', iff_false'])⟩
theorem tokI {t : List UInt8} (h : t.length ≤ 100000) (h1 : t ≠ [40]) (h2 : t ≠ [41]) (at_ : Int) : Rn 76 [.str (sB t), .int at_] (match numOf t with | some n => [tokV 3 at_ n t, .bool true] | none => [tokV 4 at_ 0 t, .bool (symB t)]) := by
  have c1 : cmpS BinOp.eql (sB t) (sB [40]) = false := by rw [cmpE]; simpa using h1
  have c2 : cmpS BinOp.eql (sB t) (sB [41]) = false := by rw [cmpE]; simpa using h2
  have ha := atoiI h
  have hy := symI (l := t) (by omega)
  have ft : (false == true) = false := rfl
  unfold atoiR at ha
  cases hA : Lib.atoiAll t with
  | ok v =>
    rw [hA] at ha
    obtain ⟨b1, b2⟩ := Lib.atoiAll_bounds hA
    have hd := digI (n := v) (by omega) (by omega)
    have hw := is102 v
    have ce := cmpE (Lib.itoa v) t
    cases h3 : (Lib.itoa v == t) with
    | false =>
      rw [h3] at ce
      have hn : numOf t = none := by
        unfold numOf
        rw [hA]
        simp only
        rw [if_neg (fun hc => by rw [hc.1] at h3; simp at h3)]
      rw [hn]
      refine Is.of e76 (Evt.mp3 ha hd hy fun n q1 q2 q3 => ?_)
      simp only [F76, nth_0, nth_1, toStr_str, otO, otC, c1, c2, iff_false', q1, Option.bind_some, isB_bool, beq_self_eq_true, iff_true', selB_true, selB_false, toBool_bool, q2, dgB, ce, ft, q3]
    | true =>
      rw [h3] at ce
      have h3 := beq_iff_eq.1 h3
      cases h4 : okW v with
      | false =>
        rw [h4] at hw
        have hn : numOf t = none := by
          unfold numOf
          rw [hA]
          simp only
          rw [if_neg (fun hc => by rw [hc.2] at h4; cases h4)]
        rw [hn]
        refine Is.of e76 (Evt.mp4 ha hd hy hw fun n q1 q2 q3 q4 => ?_)
        simp only [F76, nth_0, nth_1, toStr_str, otO, otC, c1, c2, iff_false', q1, Option.bind_some, isB_bool, beq_self_eq_true, iff_true', selB_true, selB_false, toBool_bool, q2, dgB, ce, ft, q3, q4]
      | true =>
        rw [h4] at hw
        have hn : numOf t = some v := numOf_iff.2 ⟨h3, h4⟩
        rw [hn]
        refine Is.of e76 (Evt.mp4 ha hd hy hw fun n q1 q2 q3 q4 => ?_)
        simp only [F76, nth_0, nth_1, toStr_str, otO, otC, c1, c2, iff_false', q1, Option.bind_some, isB_bool, beq_self_eq_true, iff_true', selB_true, selB_false, toBool_bool, q2, dgB, ce, ft, q3, q4]
  | «syntax» =>
    rw [hA] at ha
    have hn : numOf t = none := by unfold numOf; rw [hA]
    rw [hn]
    refine Is.of e76 (Evt.mp2 ha hy fun n q1 q3 => ?_)
    simp only [F76, nth_0, nth_1, toStr_str, otO, otC, c1, c2, iff_false', q1, Option.bind_some, isB_bool, isB_unit, beq_self_eq_true, iff_true', selB_true, selB_false, toBool_bool, ft, q3]
  | range =>
    rw [hA] at ha
    have hn : numOf t = none := by unfold numOf; rw [hA]
    rw [hn]
    refine Is.of e76 (Evt.mp2 ha hy fun n q1 q3 => ?_)
    simp only [F76, nth_0, nth_1, toStr_str, otO, otC, c1, c2, iff_false', q1, Option.bind_some, isB_bool, isB_unit, beq_self_eq_true, iff_true', selB_true, selB_false, toBool_bool, ft, q3]
def sep (b : UInt8) : Bool := ((b == 32 || b == 10) || b == 40) || b == 41
def wLen (l : List UInt8) (i : Nat) : Nat := ((l.drop i).takeWhile fun b => !sep b).length
theorem wLen_le (l : List UInt8) (i : Nat) : i ≤ l.length → i + wLen l i ≤ l.length := by
  intro h
  have := (List.takeWhile_sublist (l := l.drop i) fun b => !sep b).length_le
  rw [List.length_drop] at this
  unfold wLen
  omega
theorem drop_at (l : List UInt8) {i : Nat} (h : i < l.length) : l.drop i = l.getD i 0 :: l.drop (i + 1) := by
  rw [List.drop_eq_getElem_cons h]
  simp [List.getD_eq_getElem?_getD, h]
theorem wLen_step (l : List UInt8) {i : Nat} (h : i < l.length) (hs : sep (l.getD i 0) = false) : wLen l i = wLen l (i + 1) + 1 := by
  unfold wLen
  rw [drop_at l h, List.takeWhile_cons_of_pos (by rw [hs]; rfl)]
  simp
theorem wLen_at (l : List UInt8) : ∀ (j i : Nat), j < wLen l i → i ≤ l.length → i + j < l.length ∧ sep (l.getD (i + j) 0) = false
  | 0, i, h, hi => by
    by_cases hl : i < l.length
    · refine ⟨hl, ?_⟩
      cases hs : sep (l.getD i 0) with
      | false => rfl
      | true =>
        unfold wLen at h
        rw [drop_at l hl, List.takeWhile_cons_of_neg (by rw [hs]; simp)] at h
        cases h
    · unfold wLen at h
      rw [List.drop_eq_nil_of_le (by omega)] at h
      cases h
  | j + 1, i, h, hi => by
    obtain ⟨h1, h2⟩ := wLen_at l 0 i (by omega) hi
    have e := wLen_step l (i := i) h1 h2
    obtain ⟨h3, h4⟩ := wLen_at l j (i + 1) (by omega) (by omega)
    rw [show i + 1 + j = i + (j + 1) by omega] at h3 h4
    exact ⟨h3, h4⟩
theorem wLen_end (l : List UInt8) : ∀ (k i : Nat), wLen l i = k → i ≤ l.length → i + k < l.length → sep (l.getD (i + k) 0) = true
  | 0, i, h, hi, hl => by
    cases hs : sep (l.getD i 0) with
    | true => rfl
    | false =>
      have := wLen_step l (i := i) hl hs
      omega
  | k + 1, i, h, hi, hl => by
    obtain ⟨h1, h2⟩ := wLen_at l 0 i (by omega) hi
    have e := wLen_step l (i := i) h1 h2
    have := wLen_end l k (i + 1) (by omega) (by omega) (by omega)
    rw [show i + 1 + k = i + (k + 1) by omega] at this
    exact this
theorem index_sep (b : UInt8) : ltI (Lib.indexByte [32, 10, 40, 41] b) 0 = !sep b := by
  rw [index_neg]
  congr 1
  simp only [sep, List.contains_cons, List.contains_nil, Bool.or_false, Bool.or_assoc]
theorem partS (b : UInt8) : Rn 71 [.int b.toNat] [.bool (sep b)] := by
  have e32 := eq_k b (k := 32) (by decide)
  have e10 := eq_k b (k := 10) (by decide)
  have e40 := eq_k b (k := 40) (by decide)
  have e41 := eq_k b (k := 41) (by decide)
  have n32 : (b == UInt8.ofNat 32) = (b == 32) := rfl
  have n10 : (b == UInt8.ofNat 10) = (b == 10) := rfl
  have n40 : (b == UInt8.ofNat 40) = (b == 40) := rfl
  have n41 : (b == UInt8.ofNat 41) = (b == 41) := rfl
  rw [n32, show ((32 : Nat) : Int) = 32 from rfl] at e32
  rw [n10, show ((10 : Nat) : Int) = 10 from rfl] at e10
  rw [n40, show ((40 : Nat) : Int) = 40 from rfl] at e40
  rw [n41, show ((41 : Nat) : Int) = 41 from rfl] at e41
  refine Is.of e71 (Evt.all fun n => ?_)
  unfold sep
  cases c1 : (b == 32) <;> cases c2 : (b == 10) <;> cases c3 : (b == 40) <;> cases c4 : (b == 41) <;> rw [c1] at e32 <;> rw [c2] at e10 <;> rw [c3] at e40 <;> rw [c4] at e41 <;> simp [F71, e32, e10, e40, e41]
theorem scanI {l : List UInt8} (hl : l.length ≤ 4000) {i : Nat} (hi : i ≤ l.length) (y0 y1 : PV) :
    Evt fun n => loopEv (L45_0 (ev Tryd.prog sg n) n) n [y0, y1, .int i, .str (sB l)] = some (.x 2, [y0, y1, .int (i + wLen l i : Nat), .str (sB l)]) := by
  have hs : (sB l).size = l.length := size_sB _
  have hle := wLen_le l i hi
  have tf : (true == false) = false := rfl
  have ft : (false == true) = false := rfl
  have h1 := loop_run (body := fun n => L45_0 (ev Tryd.prog sg n) n) (fun j => [y0, y1, .int (i + j : Nat), .str (sB l)]) (wLen l i) (e := .x 2) (res := [y0, y1, .int (i + wLen l i : Nat), .str (sB l)]) (fun j hj => ?_) ?_ (by decide)
  · exact h1
  · obtain ⟨h2, h3⟩ := wLen_at l j i hj hi
    have hx := indexI [32, 10, 40, 41] (l.getD (i + j) 0)
    have hn := index_sep (l.getD (i + j) 0)
    rw [h3] at hn
    have hk : (((i + j : Nat) : Int)).toNat = i + j := by omega
    have c1 : ltI ((i + j : Nat) : Int) l.length = true := ltT (by omega)
    have c2 : geI ((i + j : Nat) : Int) 0 = true := geT (by omega)
    have w1 : IntKind.i64.wrap (((i + j : Nat) : Int) + 1) = ((i + (j + 1) : Nat) : Int) := by rw [wrap64 (by omega) (by omega)]; omega
    refine hx.mp fun n q => ?_
    simp only [L45_0, nth_0, nth_1, nth_2, nth_3, toInt_int, toStr_str, hs, c1, beq_self_eq_true, iff_true', selB_true, c2, hk, bd, Option.bind_some, otSep, q, hn, Bool.not_false, toBool_bool, w1]
  · by_cases h4 : i + wLen l i < l.length
    · have h3 := wLen_end l (wLen l i) i rfl hi h4
      generalize hg : i + wLen l i = e at *
      have hx := indexI [32, 10, 40, 41] (l.getD e 0)
      have hn := index_sep (l.getD e 0)
      rw [h3] at hn
      have hk : ((e : Int)).toNat = e := by omega
      have c1 : ltI (e : Int) l.length = true := ltT (by omega)
      have c2 : geI (e : Int) 0 = true := geT (by omega)
      refine hx.mp fun n q => ?_
      simp only [L45_0, nth_0, nth_1, nth_2, nth_3, toInt_int, toStr_str, hs, c1, beq_self_eq_true, iff_true', selB_true, c2, hk, bd, Option.bind_some, otSep, q, hn, Bool.not_true, toBool_bool, iff_false']
    · generalize hg : i + wLen l i = e at *
      have c1 : ltI (e : Int) l.length = false := ltF (by omega)
      refine Evt.all fun n => ?_
      simp only [L45_0, nth_0, nth_1, nth_2, nth_3, toInt_int, toStr_str, hs, c1, ft, selB_false, iff_false', Option.bind_some, toBool_bool]
theorem scanS {l : List UInt8} (hl : l.length ≤ 4000) {i : Nat} (hi : i ≤ l.length) (y0 y3 y4 : PV) :
    Evt fun n => loopEv (L43_0 (ev Tryd.prog sg n) n) n [y0, .int i, .str (sB l), y3, y4] = some (.x 3, [y0, .int (i + wLen l i : Nat), .str (sB l), y3, y4]) := by
  have hs : (sB l).size = l.length := size_sB _
  have hle := wLen_le l i hi
  have ft : (false == true) = false := rfl
  have h1 := loop_run (body := fun n => L43_0 (ev Tryd.prog sg n) n) (fun j => [y0, .int (i + j : Nat), .str (sB l), y3, y4]) (wLen l i) (e := .x 3) (res := [y0, .int (i + wLen l i : Nat), .str (sB l), y3, y4]) (fun j hj => ?_) ?_ (by decide)
  · exact h1
  · obtain ⟨h2, h3⟩ := wLen_at l j i hj hi
    have hx := partS (l.getD (i + j) 0)
    rw [h3] at hx
    have hk : (((i + j : Nat) : Int)).toNat = i + j := by omega
    have c1 : ltI ((i + j : Nat) : Int) l.length = true := ltT (by omega)
    have c2 : geI ((i + j : Nat) : Int) 0 = true := geT (by omega)
    have w1 : IntKind.i64.wrap (((i + j : Nat) : Int) + 1) = ((i + (j + 1) : Nat) : Int) := by rw [wrap64 (by omega) (by omega)]; omega
    refine hx.mp fun n q => ?_
    simp only [L43_0, nth_0, nth_1, nth_2, nth_3, nth_4, toInt_int, toStr_str, hs, c1, beq_self_eq_true, iff_true', selB_true, c2, hk, bd, Option.bind_some, q, Bool.not_false, toBool_bool, w1]
  · by_cases h4 : i + wLen l i < l.length
    · have h3 := wLen_end l (wLen l i) i rfl hi h4
      generalize hg : i + wLen l i = e at *
      have hx := partS (l.getD e 0)
      rw [h3] at hx
      have hk : ((e : Int)).toNat = e := by omega
      have c1 : ltI (e : Int) l.length = true := ltT (by omega)
      have c2 : geI (e : Int) 0 = true := geT (by omega)
      refine hx.mp fun n q => ?_
      simp only [L43_0, nth_0, nth_1, nth_2, nth_3, nth_4, toInt_int, toStr_str, hs, c1, beq_self_eq_true, iff_true', selB_true, c2, hk, bd, Option.bind_some, q, Bool.not_true, toBool_bool, iff_false']
    · generalize hg : i + wLen l i = e at *
      have c1 : ltI (e : Int) l.length = false := ltF (by omega)
      refine Evt.all fun n => ?_
      simp only [L43_0, nth_0, nth_1, nth_2, nth_3, nth_4, toInt_int, toStr_str, hs, c1, ft, selB_false, iff_false', Option.bind_some, toBool_bool]
/-! ### .. one by one -/
def wAt (l : List UInt8) (i : Nat) : List UInt8 := (l.drop i).take (wLen l i)
inductive TN where
  | skip
  | tok (t : PV) (to : Nat)
  | bad
def nextT (l : List UInt8) (i : Nat) : TN :=
  if l.getD i 0 == 32 || l.getD i 0 == 10 then .skip
  else if l.getD i 0 == 40 then .tok (tokV 1 i 0 [40]) (i + 1)
  else if l.getD i 0 == 41 then .tok (tokV 2 i 0 [41]) (i + 1)
  else match numOf (wAt l i) with
    | some n => .tok (tokV 3 i n (wAt l i)) (i + wLen l i)
    | none => if symB (wAt l i) then .tok (tokV 4 i 0 (wAt l i)) (i + wLen l i) else .bad
end Go.Proofs.YthmhgnnaihkjaaaDoor.GFnExactRenamed
