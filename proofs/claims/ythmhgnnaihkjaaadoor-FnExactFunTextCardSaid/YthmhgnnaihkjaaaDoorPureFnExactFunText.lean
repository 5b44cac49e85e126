/- What functions of the program and of the reference come to, for the law FnExactFunText. Each under the conditions that it names. -/
import Derived.Test.YthmhgnnaihkjaaaDoorBFnExactFunText
namespace Go.Proofs.YthmhgnnaihkjaaaDoor.GFnExactFunText
open Go Go.Rsc Go.Proofs.YthmhgnnaihkjaaaDoor
set_option maxRecDepth 100000
set_option linter.unusedVariables false
set_option linter.unusedSimpArgs false
/-! ### Places of code, written out -/
def namesL : List (List UInt8) := [[110, 117, 109], [108, 111, 99, 97, 108], [102, 114, 101, 101], [115, 101, 108, 102], [99, 108, 111, 115], [99, 97, 108, 108], [114, 101, 116], [99, 111, 110], [102, 105, 101, 108, 100], [105, 115, 99, 111, 110], [105, 115, 110, 117, 109], [97, 100, 100], [115, 117, 98], [109, 117, 108], [108, 101, 115, 115], [115, 97, 109, 101], [112, 117, 116], [122, 101, 114, 111], [106, 117, 109, 112], [115, 108, 105, 100, 101], [102, 97, 105, 108]]
def names : List PV := namesL.map fun l => PV.str (sB l)
theorem namesP : ((PV.str (⟨#[110, 117, 109]⟩ : ByteArray)) :: ((PV.str (⟨#[108, 111, 99, 97, 108]⟩ : ByteArray)) :: ((PV.str (⟨#[102, 114, 101, 101]⟩ : ByteArray)) :: ((PV.str (⟨#[115, 101, 108, 102]⟩ : ByteArray)) :: ((PV.str (⟨#[99, 108, 111, 115]⟩ : ByteArray)) :: ((PV.str (⟨#[99, 97, 108, 108]⟩ : ByteArray)) :: ((PV.str (⟨#[114, 101, 116]⟩ : ByteArray)) :: ((PV.str (⟨#[99, 111, 110]⟩ : ByteArray)) :: ((PV.str (⟨#[102, 105, 101, 108, 100]⟩ : ByteArray)) :: ((PV.str (⟨#[105, 115, 99, 111, 110]⟩ : ByteArray)) :: ((PV.str (⟨#[105, 115, 110, 117, 109]⟩ : ByteArray)) :: ((PV.str (⟨#[97, 100, 100]⟩ : ByteArray)) :: ((PV.str (⟨#[115, 117, 98]⟩ : ByteArray)) :: ((PV.str (⟨#[109, 117, 108]⟩ : ByteArray)) :: ((PV.str (⟨#[108, 101, 115, 115]⟩ : ByteArray)) :: ((PV.str (⟨#[115, 97, 109, 101]⟩ : ByteArray)) :: ((PV.str (⟨#[112, 117, 116]⟩ : ByteArray)) :: ((PV.str (⟨#[122, 101, 114, 111]⟩ : ByteArray)) :: ((PV.str (⟨#[106, 117, 109, 112]⟩ : ByteArray)) :: ((PV.str (⟨#[115, 108, 105, 100, 101]⟩ : ByteArray)) :: ((PV.str (⟨#[102, 97, 105, 108]⟩ : ByteArray)) :: ([] : List PV)))))))))))))))))))))) = names := rfl
theorem names_len : names.length = 21 := rfl
theorem nth_names {i : Nat} (h : i < 21) : nth names i = .str (sB (namesL.getD i [])) := by
  have h2 : i < namesL.length := h
  unfold nth names
  simp [List.getD_eq_getElem?_getD, h2]
theorem name_len (i : Nat) : (namesL.getD i []).length ≤ 5 := by
  have : ∀ l ∈ namesL, l.length ≤ 5 := by decide
  rw [List.getD_eq_getElem?_getD]
  cases h : namesL[i]? with
  | none => simp
  | some l => exact this l (List.mem_of_getElem? h)
def opL (c n m : Int) : List UInt8 := if 1 ≤ c ∧ c ≤ 21 then namesL.getD (c - 1).toNat [] ++ [32] ++ Lib.itoa n ++ [32] ++ Lib.itoa m else []
def i64 (x : Int) : Prop := -9223372036854775808 ≤ x ∧ x < 9223372036854775808
theorem ot32 : (⟨#[32]⟩ : ByteArray) = sB [32] := rfl
theorem ot10 : (⟨#[10]⟩ : ByteArray) = sB [10] := rfl
theorem ot0 : (⟨#[]⟩ : ByteArray) = sB [] := rfl
theorem otFun : (⟨#[102, 117, 110, 32]⟩ : ByteArray) = sB [102, 117, 110, 32] := rfl
theorem opL_len {c n m : Int} (h1 : i64 n) (h2 : i64 m) : (opL c n m).length ≤ 49 := by
  have l3 := itoa_len h1.1 h1.2
  have l4 := itoa_len h2.1 h2.2
  have := name_len (c - 1).toNat
  unfold opL
  split
  · simp only [List.length_append, List.length_cons, List.length_nil]; omega
  · simp
theorem opI {c n m : Int} (h1 : i64 n) (h2 : i64 m) : Rn 28 [.agg [.int c, .int n, .int m]] [.str (sB (opL c n m))] := by
  have l3 := itoa_len h1.1 h1.2
  have l4 := itoa_len h2.1 h2.2
  have ln := name_len (c - 1).toNat
  refine Is.of e28 (Evt.mp3 (is54 c 1 21) (digI h1.1 h1.2) (digI h2.1 h2.2) fun k r1 r2 r3 => ?_)
  by_cases hc : 1 ≤ c ∧ c ≤ 21
  · have c0 : okR c 1 21 = true := by simp [okR]; omega
    have w1 : IntKind.i64.wrap (c - 1) = c - 1 := wrap64 (by omega) (by omega)
    have hn := nth_names (i := (c - 1).toNat) (by omega)
    have c1 : ltI (c - 1) (21 : Nat) = true := ltT (by omega)
    have c2 : geI (c - 1) 0 = true := geT (by omega)
    rw [c0] at r1
    have e : opL c n m = namesL.getD (c - 1).toNat [] ++ [32] ++ Lib.itoa n ++ [32] ++ Lib.itoa m := by unfold opL; rw [if_pos hc]
    rw [e]
    generalize namesL.getD (c - 1).toNat [] = nm at hn ln
    simp (disch := ((try simp only [size_sB, List.length_append, List.length_cons, List.length_nil]); omega)) only [F28, namesP, names_len, nth_0, nth_1, nth_2, fld_agg, toInt_int, toStr_str, r1, r2, r3, Option.bind_some, toBool_bool, Bool.not_true, iff_false', iff_true', w1, c1, c2, hn, leT, dgB, catB_sB, ot32]
  · have c0 : okR c 1 21 = false := by simp [okR]; omega
    rw [c0] at r1
    have e : opL c n m = [] := by unfold opL; rw [if_neg hc]
    rw [e]
    simp only [F28, nth_0, fld_agg, r1, Option.bind_some, toBool_bool, Bool.not_false, iff_true', ot0]
theorem namesS : Rn 52 [] [.list (.str (sB []) :: names)] := Is.of e52 (Evt.all fun n => rfl)
theorem opS {c n m : Int} (h1 : i64 n) (h2 : i64 m) : Rn 25 [.agg [.int c, .int n, .int m]] [.str (sB (opL c n m))] := by
  have l3 := itoa_len h1.1 h1.2
  have l4 := itoa_len h2.1 h2.2
  have ln := name_len (c - 1).toNat
  refine Is.of e25 (Evt.mp4 (is51 c 1 21) (digS h1.1 h1.2) (digS h2.1 h2.2) namesS fun k r1 r2 r3 r4 => ?_)
  by_cases hc : 1 ≤ c ∧ c ≤ 21
  · have c0 : okR c 1 21 = true := by simp [okR]; omega
    have hn : nth (.str (sB []) :: names) c.toNat = .str (sB (namesL.getD (c - 1).toNat [])) := by
      rw [← nth_names (i := (c - 1).toNat) (by omega), show c.toNat = (c - 1).toNat + 1 by omega]
      rfl
    have hl : (PV.str (sB []) :: names).length = 22 := rfl
    have c1 : ltI c (22 : Nat) = true := ltT (by omega)
    have c2 : geI c 0 = true := geT (by omega)
    rw [c0] at r1
    have e : opL c n m = namesL.getD (c - 1).toNat [] ++ [32] ++ Lib.itoa n ++ [32] ++ Lib.itoa m := by unfold opL; rw [if_pos hc]
    rw [e]
    generalize namesL.getD (c - 1).toNat [] = nm at hn ln
    generalize PV.str (sB []) :: names = nl at hn hl r4
    simp (disch := ((try simp only [size_sB, List.length_append, List.length_cons, List.length_nil]); omega)) only [F25, nth_0, nth_1, nth_2, fld_agg, toInt_int, toStr_str, toList_list, r1, r2, r3, r4, hl, Option.bind_some, toBool_bool, Bool.not_true, iff_false', iff_true', c1, c2, hn, leT, dgB, catB_sB, ot32]
  · have c0 : okR c 1 21 = false := by simp [okR]; omega
    rw [c0] at r1
    have e : opL c n m = [] := by unfold opL; rw [if_neg hc]
    rw [e]
    simp only [F25, nth_0, fld_agg, r1, Option.bind_some, toBool_bool, Bool.not_false, iff_true', ot0]
/-! ### Bytes of strings -/
theorem s2bL_sB (l : List UInt8) : s2bL (sB l) = l.map fun b : UInt8 => PV.int b.toNat := by simp [s2bL]
theorem b2sL_map (l : List UInt8) : b2sL (l.map fun b : UInt8 => PV.int b.toNat) = sB l := by
  unfold b2sL sB
  rw [List.map_map]
  congr 1
  congr 1
  conv => rhs; rw [← List.map_id l]
  refine List.map_congr_left fun b _ => ?_
  simp [PV.toInt]
/-! ### A function, written out -/
abbrev opV (o : Int × Int × Int) : PV := .agg [.int o.1, .int o.2.1, .int o.2.2]
def linL (i : Nat) (o : Int × Int × Int) : List UInt8 := Lib.itoa i ++ [32] ++ opL o.1 o.2.1 o.2.2 ++ [10]
def textL (free : Int) (ops : List (Int × Int × Int)) : Nat → List UInt8
  | 0 => [102, 117, 110, 32] ++ Lib.itoa free ++ [10]
  | k + 1 => textL free ops k ++ linL k (ops.getD k (0, 0, 0))
def opsOk (ops : List (Int × Int × Int)) : Prop := ∀ o ∈ ops, i64 o.2.1 ∧ i64 o.2.2
theorem ops_at {ops : List (Int × Int × Int)} (h : opsOk ops) (k : Nat) : i64 (ops.getD k (0, 0, 0)).2.1 ∧ i64 (ops.getD k (0, 0, 0)).2.2 := by
  rw [List.getD_eq_getElem?_getD]
  cases e : ops[k]? with
  | none => exact ⟨⟨by decide, by decide⟩, ⟨by decide, by decide⟩⟩
  | some o => exact h o (List.mem_of_getElem? e)
theorem nth_op {ops : List (Int × Int × Int)} {k : Nat} (h : k < ops.length) : nth (ops.map opV) k = opV (ops.getD k (0, 0, 0)) := by
  unfold nth
  simp [List.getD_eq_getElem?_getD, h]
theorem text_len {free : Int} {ops : List (Int × Int × Int)} (hf : i64 free) (h : opsOk ops) : ∀ k, k ≤ 1048576 → (textL free ops k).length ≤ 30 + 80 * k
  | 0, _ => by
    have l3 := itoa_len hf.1 hf.2
    simp only [textL, List.length_append, List.length_cons, List.length_nil]; omega
  | k + 1, hk => by
    have := text_len hf h k (by omega)
    have l3 := itoa_len (n := (k : Int)) (by omega) (by omega)
    obtain ⟨o1, o2⟩ := ops_at h k
    have l4 := opL_len (c := (ops.getD k (0, 0, 0)).1) o1 o2
    simp only [textL, linL, List.length_append, List.length_cons, List.length_nil]; omega
section
variable {free : Int} {ops : List (Int × Int × Int)}
theorem funI (hf : i64 free) (h : opsOk ops) (hl : ops.length ≤ 1048576) : Rn 10 [.agg [.int free, .list (ops.map opV)]] [.str (sB (textL free ops ops.length))] := by
  have hml : (ops.map opV).length = ops.length := List.length_map ..
  have l0 := text_len hf h 0 (by omega)
  have h1 := loop_run (body := fun n => L10_0 (ev Tryd.prog sg n) n) (fun k => [.int k, .int ops.length, .list (ops.map opV), .list ((textL free ops k).map fun b : UInt8 => PV.int b.toNat)]) ops.length (e := .x 0)
    (res := [.list ((textL free ops ops.length).map fun b : UInt8 => PV.int b.toNat)]) (fun k hk => ?_) (Evt.all fun n => ?_) (by decide)
  · refine Is.of e10 (h1.mp2 (digI hf.1 hf.2) fun n q r1 => ?_)
    have e0 : s2bL (catB (catB (sB [102, 117, 110, 32]) (sB (Lib.itoa free))) (sB [10])) = (textL free ops 0).map fun b : UInt8 => PV.int b.toNat := by simp only [catB_sB, s2bL_sB, textL]
    have q' : loopEv (L10_0 (ev Tryd.prog sg n) n) n [.int 0, .int ops.length, .list (ops.map opV), .list ((textL free ops 0).map fun b : UInt8 => PV.int b.toNat)] = some (.x 0, [.list ((textL free ops ops.length).map fun b : UInt8 => PV.int b.toNat)]) := q
    have l3 := itoa_len hf.1 hf.2
    have c1 : leI ((catB (sB [102, 117, 110, 32]) (sB (Lib.itoa free))).size : Int) 9223372036854775807 = true := leT (by simp only [catB_sB, size_sB, List.length_append, List.length_cons, List.length_nil]; omega)
    have c2 : leI ((catB (catB (sB [102, 117, 110, 32]) (sB (Lib.itoa free))) (sB [10])).size : Int) 9223372036854775807 = true := leT (by simp only [catB_sB, size_sB, List.length_append, List.length_cons, List.length_nil]; omega)
    have c3 : leI ((catB (catB (sB [102, 117, 110, 32]) (sB (Lib.itoa free))) (sB [10])).size : Int) 140737488355328 = true := leT (by simp only [catB_sB, size_sB, List.length_append, List.length_cons, List.length_nil]; omega)
    simp only [F10, nth_0, nth_1, fld_agg, r1, Option.bind_some, dgB, toStr_str, toList_list, otFun, ot10, c1, c2, c3, iff_true', hml, e0, q', thenE_some, passB_same, thenN_n, b2sL_map]
  · obtain ⟨o1, o2⟩ := ops_at h k
    have hn := nth_op hk
    have lt := text_len hf h k (by omega)
    have l3 := itoa_len (n := (k : Int)) (by omega) (by omega)
    have l4 := opL_len (c := (ops.getD k (0, 0, 0)).1) o1 o2
    have ho := opI (c := (ops.getD k (0, 0, 0)).1) o1 o2
    have hd := digI (n := (k : Int)) (by omega) (by omega)
    simp only [textL, linL]
    generalize ops.getD k (0, 0, 0) = o at *
    generalize textL free ops k = t at *
    have hc1 : ltI (k : Int) ops.length = true := ltT (by omega)
    have hc2 : geI (k : Int) 0 = true := geT (by omega)
    have w1 : IntKind.i64.wrap ((k : Int) + 1) = ((k + 1 : Nat) : Int) := by rw [wrap64 (by omega) (by omega)]; omega
    have hk' : ((k : Int)).toNat = k := by omega
    refine ho.mp2 hd fun n q1 q2 => ?_
    have c4 : leN ((t.map fun b : UInt8 => PV.int b.toNat).length + ((Lib.itoa k ++ [32] ++ opL o.1 o.2.1 o.2.2 ++ [10]).map fun b : UInt8 => PV.int b.toNat).length) 140737488355328 = true := leNT (by simp only [List.length_map, List.length_append, List.length_cons, List.length_nil]; omega)
    simp (disch := ((try simp only [size_sB, List.length_append, List.length_cons, List.length_nil]); omega)) only [L10_0, nth_0, nth_1, nth_2, nth_3, toInt_int, toList_list, toStr_str, hml, hc1, hc2, hk', hn, q1, q2, Option.bind_some, dgB, iff_true', ot32, ot10, catB_sB, leT, s2bL_sB, c4, w1, List.map_append]
    simp only [← List.map_append, c4, iff_true']
  · have c1 : ltI (ops.length : Int) ops.length = false := ltF (by omega)
    simp only [L10_0, nth_0, nth_1, nth_3, toInt_int, c1, iff_false']
theorem funS (hf : i64 free) (h : opsOk ops) (hl : ops.length ≤ 1048576) : Rn 8 [.agg [.int free, .list (ops.map opV)]] [.str (sB (textL free ops ops.length))] := by
  have hml : (ops.map opV).length = ops.length := List.length_map ..
  have h1 := loop_run (body := fun n => L8_0 (ev Tryd.prog sg n) n) (fun k => [.int k, .str (sB (textL free ops k)), .agg [.int free, .list (ops.map opV)]]) ops.length (e := .x 0)
    (res := [.str (sB (textL free ops ops.length))]) (fun k hk => ?_) (Evt.all fun n => ?_) (by decide)
  · refine Is.of e8 (h1.mp2 (digS hf.1 hf.2) fun n q r1 => ?_)
    have q' : loopEv (L8_0 (ev Tryd.prog sg n) n) n [.int 0, .str (sB ([102, 117, 110, 32] ++ Lib.itoa free ++ [10])), .agg [.int free, .list (ops.map opV)]] = some (.x 0, [.str (sB (textL free ops ops.length))]) := q
    have l3 := itoa_len hf.1 hf.2
    simp (disch := ((try simp only [size_sB, List.length_append, List.length_cons, List.length_nil]); omega)) only [F8, nth_0, nth_1, fld_agg, r1, Option.bind_some, dgB, toStr_str, otFun, ot10, catB_sB, leT, iff_true', q', thenE_some, passB_same, thenN_n]
  · obtain ⟨o1, o2⟩ := ops_at h k
    have hn := nth_op hk
    have lt := text_len hf h k (by omega)
    have l3 := itoa_len (n := (k : Int)) (by omega) (by omega)
    have l4 := opL_len (c := (ops.getD k (0, 0, 0)).1) o1 o2
    have ho := opS (c := (ops.getD k (0, 0, 0)).1) o1 o2
    have hd := digS (n := (k : Int)) (by omega) (by omega)
    simp only [textL, linL]
    generalize ops.getD k (0, 0, 0) = o at *
    generalize textL free ops k = t at *
    have hc1 : ltI (k : Int) ops.length = true := ltT (by omega)
    have hc2 : geI (k : Int) 0 = true := geT (by omega)
    have w1 : IntKind.i64.wrap ((k : Int) + 1) = ((k + 1 : Nat) : Int) := by rw [wrap64 (by omega) (by omega)]; omega
    have hk' : ((k : Int)).toNat = k := by omega
    refine ho.mp2 hd fun n q1 q2 => ?_
    simp (disch := ((try simp only [size_sB, List.length_append, List.length_cons, List.length_nil]); omega)) only [L8_0, nth_0, nth_1, nth_2, toInt_int, toList_list, toStr_str, fld_agg, hml, hc1, hc2, hk', hn, q1, q2, Option.bind_some, dgB, iff_true', ot32, ot10, catB_sB, leT, w1, List.append_assoc]
  · have c1 : ltI (ops.length : Int) ops.length = false := ltF (by omega)
    simp only [L8_0, nth_0, nth_1, nth_2, fld_agg, toInt_int, toList_list, hml, c1, iff_false']
end
theorem opsOf : ∀ {l : List PV}, (∀ q, q ∈ l → WfT Tryd.prog 81 q) → ∃ ops : List (Int × Int × Int), l = ops.map opV ∧ opsOk ops
  | [], _ => ⟨[], rfl, fun o h => by cases h⟩
  | q :: l, h => by
    obtain ⟨x0, x1, x2, rfl, _, h1, h2⟩ := wf81 (h q (by simp))
    obtain ⟨ops, rfl, h3⟩ := opsOf (l := l) fun q hq => h q (by simp [hq])
    exact ⟨(x0, x1, x2) :: ops, rfl, fun o ho => by
      rcases List.mem_cons.1 ho with rfl | ho
      · exact ⟨h1, h2⟩
      · exact h3 o ho⟩
theorem law {p : PV} (h : WfT Tryd.prog 24 p) : Rn 3 [p] [.bool true] := by
  have hsz := sz_7 h (x := 1048576) (by omega) (by omega)
  by_cases hneg : szR 1048576 p.wt < 0
  · refine Is.of e3 (hsz.mp fun n h1 => ?_)
    simp [F3, h1, ltT hneg]
  have hw : p.wt ≤ 1048576 := by have := mt (szR_neg (x := 1048576) (w := p.wt) (by omega)).2 hneg; omega
  have hto := to_9 h hw
  have heqa := eq_11 h
  obtain ⟨free, x1, rfl, hf, h2⟩ := wf24 h
  obtain ⟨l, rfl, hl, he⟩ := wf_slice (e := 81) (by kernel_rfl) h2
  obtain ⟨ops, rfl, hops⟩ := opsOf he
  have hwl : ops.length ≤ 1048576 := by simp at hw; omega
  have hi := funI hf hops hwl
  have hs := funS hf hops hwl
  refine Is.of e3 ((Evt.and (hsz.and (hto.and heqa)) (hi.and hs)).mp fun n h1 => ?_)
  obtain ⟨⟨h1, h2, h3⟩, h4, h5⟩ := h1
  have hge : 0 ≤ szR 1048576 (PV.agg [.int free, .list (ops.map opV)]).wt := Int.not_lt.1 hneg
  generalize PV.agg [.int free, .list (ops.map opV)] = q at *
  simp (disch := omega) [F3, h1, h2, h3, h4, h5, ltF]
theorem pure_law (ps : List PV) (hl : ps.length = 1) (hwf : ∀ (j : Nat) t p, [24][j]? = some t → ps[j]? = some p → WfT Tryd.prog t p) : ∃ n, ev Tryd.prog sg n 3 ps = some [.bool true] := by
  obtain ⟨p, rfl⟩ := List.length_eq_one_iff.1 hl
  exact (law (hwf 0 24 p rfl rfl)).get
end Go.Proofs.YthmhgnnaihkjaaaDoor.GFnExactFunText
