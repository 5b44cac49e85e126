/- What functions of the program and of the reference come to, for the law FnExactRenamed. Each under the conditions that it names. -/
import Derived.Test.YthmhgnnaihkjaaaDoorBFnExactRenamed
namespace Go.Proofs.YthmhgnnaihkjaaaDoor.GFnExactRenamed
open Go Go.Rsc Go.Proofs.YthmhgnnaihkjaaaDoor
set_option maxRecDepth 100000
set_option linter.unusedVariables false
set_option linter.unusedSimpArgs false
/-! ### Which bytes are digits, which are of names -/
theorem dig_bt (b : UInt8) : (geI (b.toNat : Int) 48 && leI (b.toNat : Int) 57) = dig b := by
  rw [Bool.eq_iff_iff]
  simp [dig, geI, leI]
  omega
theorem low_bt (b : UInt8) : (geI (b.toNat : Int) 97 && leI (b.toNat : Int) 122) = low b := by
  rw [Bool.eq_iff_iff]
  simp [low, geI, leI]
  omega
theorem eq_bt (a b : UInt8) : eqI (a.toNat : Int) (b.toNat : Int) = (a == b) := by
  rw [Bool.eq_iff_iff]
  simp only [eqI, beq_iff_eq, Int.natCast_inj]
  exact ⟨fun h => UInt8.toNat_inj.1 h, fun h => by rw [h]⟩
theorem eq_k (a : UInt8) {k : Nat} (hk : k < 256) : eqI (a.toNat : Int) (k : Int) = (a == UInt8.ofNat k) := by
  rw [← eq_bt, UInt8.toNat_ofNat', Nat.mod_eq_of_lt (by omega)]
theorem digI1 (b : UInt8) : Rn 77 [.int b.toNat] [.bool (dig b)] := by
  refine Is.of e77 (Evt.all fun n => ?_)
  rw [← dig_bt]
  cases h1 : geI (b.toNat : Int) 48 <;> cases h2 : leI (b.toNat : Int) 57 <;> simp [F77, h1, h2]
theorem digS1 (b : UInt8) : Rn 74 [.int b.toNat] [.bool (dig b)] := by
  refine Is.of e74 (Evt.all fun n => ?_)
  rw [← dig_bt]
  cases h1 : geI (b.toNat : Int) 48 <;> cases h2 : leI (b.toNat : Int) 57 <;> simp [F74, h1, h2]
theorem indexI (l : List UInt8) (b : UInt8) : Rn 75 [.str (sB l), .int b.toNat] [.int (Lib.indexByte l b)] := orc_is (s := indexSig) rfl rfl (by
  show some [PV.int (Lib.indexByte (sB l).data.toList ((b.toNat : Int).toNat).toUInt8)] = _
  rw [toList_sB, Int.toNat_natCast, show b.toNat.toUInt8 = b from UInt8.ofNat_toNat])
theorem otS : (⟨#[43, 45, 42, 60, 61, 63, 46, 95]⟩ : ByteArray) = sB sgnL := rfl
theorem all_ne (b : UInt8) : ∀ l : List UInt8, (l.all fun x => !(x == b)) = !l.contains b
  | [] => rfl
  | x :: l => by
    have := all_ne b l
    have e : (x == b) = (b == x) := by
      rw [Bool.eq_iff_iff]
      simp only [beq_iff_eq]
      exact eq_comm
    simp only [List.all_cons, List.contains_cons, this, e, Bool.not_or]
theorem byteS (b : UInt8) : Rn 73 [.int b.toNat] [.bool (okc b)] := by
  have h1 := all_loop (body := fun n => L73_0 (ev Tryd.prog sg n) n) (pay := fun i => [.int i, .str (sB sgnL), .int b.toNat]) (c := fun i => !(sgnL.getD i 0 == b)) (e1 := .x 0) (r1 := []) (e2 := .r) (r2 := [.bool true]) sgnL.length (by simp) (by simp) (fun i hi hc => ?_) (fun i hi hc => ?_) (Evt.all fun n => ?_)
  · rw [range_l (fun x => !(x == b)) sgnL, all_ne] at h1
    have hl := low_bt b
    have hd := dig_bt b
    refine Is.of e73 (h1.mp fun n q => ?_)
    simp only [show ((0 : Nat) : Int) = 0 from rfl] at q
    unfold okc
    rw [← hl, ← hd]
    cases c1 : geI (b.toNat : Int) 97 <;> cases c2 : leI (b.toNat : Int) 122 <;> cases c3 : geI (b.toNat : Int) 48 <;> cases c4 : leI (b.toNat : Int) 57 <;> cases c5 : sgnL.contains b <;> rw [c5] at q <;> simp at q <;> simp [F73, c1, c2, c3, c4, otS, q]
  · have e1 := eq_bt (sgnL.getD i 0) b
    have hc' : (sgnL.getD i 0 == b) = false := by simpa using hc
    rw [hc'] at e1
    have hs : (sB sgnL).size = sgnL.length := size_sB _
    have hi2 : i < 8 := hi
    have hk : ((i : Int)).toNat = i := by omega
    have c1 : ltI (i : Int) (sB sgnL).size = true := ltT (by rw [hs]; omega)
    have c2 : geI (i : Int) 0 = true := geT (by omega)
    have w1 : IntKind.i64.wrap ((i : Int) + 1) = ((i + 1 : Nat) : Int) := by rw [wrap64 (by omega) (by omega)]; omega
    exact Evt.all fun n => by simp only [L73_0, nth_0, nth_1, nth_2, toInt_int, toStr_str, c1, c2, iff_true', hk, bd, e1, iff_false', w1]
  · have e1 := eq_bt (sgnL.getD i 0) b
    have hc' : (sgnL.getD i 0 == b) = true := by simpa using hc
    rw [hc'] at e1
    have hs : (sB sgnL).size = sgnL.length := size_sB _
    have hk : ((i : Int)).toNat = i := by omega
    have c1 : ltI (i : Int) (sB sgnL).size = true := ltT (by rw [hs]; omega)
    have c2 : geI (i : Int) 0 = true := geT (by omega)
    exact Evt.all fun n => by simp only [L73_0, nth_0, nth_1, nth_2, toInt_int, toStr_str, c1, c2, iff_true', hk, bd, e1]
  · have hs : (sB sgnL).size = sgnL.length := size_sB _
    have c1 : ltI (sgnL.length : Int) (sB sgnL).size = false := ltF (by rw [hs]; omega)
    simp only [L73_0, nth_0, nth_1, nth_2, toInt_int, toStr_str, c1, iff_false']
/-! ### Names -/
theorem symLoopI {l : List UInt8} (hl : l.length ≤ 2000000) : Evt fun n => loopEv (L46_0 (ev Tryd.prog sg n) n) n [.int 0, .str (sB l)] = if l.all okc then some (.x 0, []) else some (.r, [.bool false]) := by
  have hs : (sB l).size = l.length := size_sB _
  have key : ∀ i, i < l.length → Evt fun n => L46_0 (ev Tryd.prog sg n) n [.int i, .str (sB l)] = if okc (l.getD i 0) then some (.n, [.int (i + 1 : Nat), .str (sB l)]) else some (.r, [.bool false]) := by
    intro i hi
    have hk : ((i : Int)).toNat = i := by omega
    have c1 : ltI (i : Int) l.length = true := ltT (by omega)
    have c2 : geI (i : Int) 0 = true := geT (by omega)
    have w1 : IntKind.i64.wrap ((i : Int) + 1) = ((i + 1 : Nat) : Int) := by rw [wrap64 (by omega) (by omega)]; omega
    have hd := digI1 (l.getD i 0)
    have hx := indexI sgnL (l.getD i 0)
    have hn := index_neg sgnL (l.getD i 0)
    have hlo := low_bt (l.getD i 0)
    have e97 : ltI ((l.getD i 0).toNat : Int) 97 = !geI ((l.getD i 0).toNat : Int) 97 := by
      rw [Bool.eq_iff_iff]; simp [ltI, geI]
    have e122 : gtI ((l.getD i 0).toNat : Int) 122 = !leI ((l.getD i 0).toNat : Int) 122 := by
      rw [Bool.eq_iff_iff]; simp [gtI, leI]
    refine hd.mp2 hx fun n q1 q2 => ?_
    unfold okc
    rw [← hlo]
    generalize Lib.indexByte sgnL (l.getD i 0) = y at *
    generalize hbb : l.getD i 0 = bb at *
    cases c3 : geI (bb.toNat : Int) 97 <;> cases c4 : leI (bb.toNat : Int) 122 <;> cases c5 : dig bb <;> cases c6 : sgnL.contains bb <;> rw [c3] at e97 <;> rw [c4] at e122 <;> rw [c5] at q1 <;> rw [c6] at hn <;> simp [L46_0, bd2, isB_unit, c1, c2, hk, bd, hbb, e97, e122, q1, q2, hn, otS, w1, -List.getD_eq_getElem?_getD]
  have h1 := all_loop (body := fun n => L46_0 (ev Tryd.prog sg n) n) (pay := fun i => [.int i, .str (sB l)]) (c := fun i => okc (l.getD i 0)) (e1 := .x 0) (r1 := []) (e2 := .r) (r2 := [.bool false]) l.length (by simp) (by simp) (fun i hi hc => ?_) (fun i hi hc => ?_) (Evt.all fun n => ?_)
  · rw [range_l okc l] at h1
    exact h1
  · have hc : okc (l.getD i 0) = true := hc
    exact (key i hi).mp fun n q => by rw [q, if_pos hc]
  · have hc : okc (l.getD i 0) = false := hc
    exact (key i hi).mp fun n q => by rw [q, if_neg (by rw [hc]; simp)]
  · have c1 : ltI (l.length : Int) (sB l).size = false := ltF (by rw [hs]; omega)
    simp only [L46_0, nth_0, nth_1, toInt_int, toStr_str, c1, iff_false']
theorem symLoopS {l : List UInt8} (hl : l.length ≤ 2000000) : Evt fun n => loopEv (L44_0 (ev Tryd.prog sg n) n) n [.int 0, .str (sB l)] = if l.all okc then some (.x 0, [.str (sB l)]) else some (.r, [.bool false]) := by
  have hs : (sB l).size = l.length := size_sB _
  have key : ∀ i, i < l.length → Evt fun n => L44_0 (ev Tryd.prog sg n) n [.int i, .str (sB l)] = if okc (l.getD i 0) then some (.n, [.int (i + 1 : Nat), .str (sB l)]) else some (.r, [.bool false]) := by
    intro i hi
    have hk : ((i : Int)).toNat = i := by omega
    have c1 : ltI (i : Int) (sB l).size = true := ltT (by rw [hs]; omega)
    have c2 : geI (i : Int) 0 = true := geT (by omega)
    have w1 : IntKind.i64.wrap ((i : Int) + 1) = ((i + 1 : Nat) : Int) := by rw [wrap64 (by omega) (by omega)]; omega
    refine (byteS (l.getD i 0)).mp fun n q1 => ?_
    cases c5 : okc (l.getD i 0) <;> rw [c5] at q1 <;> simp only [L44_0, nth_0, nth_1, toInt_int, toStr_str, c1, c2, iff_true', hk, bd, q1, Option.bind_some, toBool_bool, Bool.not_true, Bool.not_false, iff_false', w1] <;> rfl
  have h1 := all_loop (body := fun n => L44_0 (ev Tryd.prog sg n) n) (pay := fun i => [.int i, .str (sB l)]) (c := fun i => okc (l.getD i 0)) (e1 := .x 0) (r1 := [.str (sB l)]) (e2 := .r) (r2 := [.bool false]) l.length (by simp) (by simp) (fun i hi hc => ?_) (fun i hi hc => ?_) (Evt.all fun n => ?_)
  · rw [range_l okc l] at h1
    exact h1
  · have hc : okc (l.getD i 0) = true := hc
    exact (key i hi).mp fun n q => by rw [q, if_pos hc]
  · have hc : okc (l.getD i 0) = false := hc
    exact (key i hi).mp fun n q => by rw [q, if_neg (by rw [hc]; simp)]
  · have c1 : ltI (l.length : Int) (sB l).size = false := ltF (by rw [hs]; omega)
    simp only [L44_0, nth_0, nth_1, toInt_int, toStr_str, c1, iff_false']
theorem symI {l : List UInt8} (hl : l.length ≤ 2000000) : Rn 46 [.str (sB l)] [.bool (symB l)] := by
  have hs : (sB l).size = l.length := size_sB _
  have hL := symLoopI hl
  have hw := is54 (l.length : Int) 1 12
  have ew : okR (l.length : Int) 1 12 = decide (1 ≤ l.length ∧ l.length ≤ 12) := by
    rw [Bool.eq_iff_iff]; simp [okR]; omega
  rw [ew] at hw
  have e45 := eq_k (l.getD 0 0) (k := 45) (by decide)
  have eg : gtI (l.length : Int) 1 = decide (1 < l.length) := by rw [Bool.eq_iff_iff]; simp [gtI]; omega
  refine Is.of e46 (Evt.mp4 hw (digI1 (l.getD 0 0)) (digI1 (l.getD 1 0)) hL fun n q1 q2 q3 q4 => ?_)
  unfold symB
  have e45' : (l.getD 0 0 == UInt8.ofNat 45) = (l.getD 0 0 == 45) := rfl
  rw [e45'] at e45
  rw [show ((45 : Nat) : Int) = 45 from rfl] at e45
  cases c1 : decide (1 ≤ l.length ∧ l.length ≤ 12) with
  | false =>
    rw [c1] at q1
    simp [F46, bd2, isB_unit, hs, q1]
  | true =>
    rw [c1] at q1
    have hlen := of_decide_eq_true c1
    have b1 : ltI 0 (l.length : Int) = true := ltT (by omega)
    have b2 : geI 0 0 = true := rfl
    have b3 : geI 1 0 = true := rfl
    cases c2 : dig (l.getD 0 0) with
    | true =>
      rw [c2] at q2
      simp [F46, bd2, isB_unit, hs, q1, b1, b2, bd, q2, -List.getD_eq_getElem?_getD]
    | false =>
      rw [c2] at q2
      cases c3 : (l.getD 0 0 == 45) with
      | false =>
        rw [c3] at e45
        cases c4 : l.all okc <;> rw [c4] at q4 <;> simp at q4 <;> simp [F46, bd2, isB_unit, hs, q1, b1, b2, bd, q2, e45, q4, -List.getD_eq_getElem?_getD]
      | true =>
        rw [c3] at e45
        cases c5 : decide (1 < l.length) with
        | false =>
          rw [c5] at eg
          cases c4 : l.all okc <;> rw [c4] at q4 <;> simp at q4 <;> simp [F46, bd2, isB_unit, hs, q1, b1, b2, bd, q2, e45, eg, q4, -List.getD_eq_getElem?_getD]
        | true =>
          rw [c5] at eg
          have b4 : ltI 1 (l.length : Int) = true := ltT (by have := of_decide_eq_true c5; omega)
          cases c6 : dig (l.getD 1 0) <;> rw [c6] at q3 <;> cases c4 : l.all okc <;> rw [c4] at q4 <;> simp at q4 <;> simp [F46, bd2, isB_unit, hs, q1, b1, b2, b3, b4, bd, q2, q3, e45, eg, q4, -List.getD_eq_getElem?_getD]
theorem symS {l : List UInt8} (hl : l.length ≤ 2000000) : Rn 44 [.str (sB l)] [.bool (symB l)] := by
  have hs : (sB l).size = l.length := size_sB _
  have hL := symLoopS hl
  have hw := is51 (l.length : Int) 1 12
  have ew : okR (l.length : Int) 1 12 = decide (1 ≤ l.length ∧ l.length ≤ 12) := by
    rw [Bool.eq_iff_iff]; simp [okR]; omega
  rw [ew] at hw
  have e45 := eq_k (l.getD 0 0) (k := 45) (by decide)
  have e45' : (l.getD 0 0 == UInt8.ofNat 45) = (l.getD 0 0 == 45) := rfl
  rw [e45'] at e45
  have n45 : neI ((l.getD 0 0).toNat : Int) 45 = !eqI ((l.getD 0 0).toNat : Int) 45 := rfl
  rw [show ((45 : Nat) : Int) = 45 from rfl] at e45
  rw [e45] at n45
  have eg : eqI (l.length : Int) 1 = decide (l.length = 1) := by rw [Bool.eq_iff_iff]; simp [eqI]; omega
  refine Is.of e44 (Evt.mp4 hw (digS1 (l.getD 0 0)) (digS1 (l.getD 1 0)) hL fun n q1 q2 q3 q4 => ?_)
  unfold symB
  cases c4 : l.all okc with
  | false =>
    rw [c4] at q4
    simp at q4
    simp [F44, q4]
  | true =>
  rw [c4] at q4
  simp only [if_true] at q4
  cases c1 : decide (1 ≤ l.length ∧ l.length ≤ 12) with
  | false =>
    rw [c1] at q1
    simp [F44, bd2, isB_unit, q4, hs, q1]
  | true =>
    rw [c1] at q1
    have hlen := of_decide_eq_true c1
    have b1 : ltI 0 (l.length : Int) = true := ltT (by omega)
    have b2 : geI 0 0 = true := rfl
    have b3 : geI 1 0 = true := rfl
    cases c2 : dig (l.getD 0 0) with
    | true =>
      rw [c2] at q2
      simp [F44, bd2, isB_unit, q4, hs, q1, b1, b2, bd, q2, -List.getD_eq_getElem?_getD]
    | false =>
      rw [c2] at q2
      cases c3 : (l.getD 0 0 == 45) with
      | false =>
        rw [c3] at n45
        simp [F44, bd2, isB_unit, q4, hs, q1, b1, b2, bd, q2, n45, -List.getD_eq_getElem?_getD]
      | true =>
        rw [c3] at n45
        by_cases c5 : l.length = 1
        · have eg' : eqI (l.length : Int) 1 = true := by rw [eg]; simp [c5]
          have d5 : decide (1 < l.length) = false := by simp; omega
          rw [d5]
          simp [F44, bd2, isB_unit, q4, hs, q1, b1, b2, bd, q2, n45, eg', -List.getD_eq_getElem?_getD]
        · have eg' : eqI (l.length : Int) 1 = false := by rw [eg]; simp [c5]
          have d5 : decide (1 < l.length) = true := by simp; omega
          rw [d5]
          have b4 : ltI 1 (l.length : Int) = true := ltT (by omega)
          cases c6 : dig (l.getD 1 0) <;> rw [c6] at q3 <;> simp [F44, bd2, isB_unit, q4, hs, q1, b1, b2, b3, b4, bd, q2, q3, n45, eg', -List.getD_eq_getElem?_getD]
end Go.Proofs.YthmhgnnaihkjaaaDoor.GFnExactRenamed
