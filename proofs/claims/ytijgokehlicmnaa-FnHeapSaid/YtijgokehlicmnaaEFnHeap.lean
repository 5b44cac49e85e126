/- What functions of the program and of the reference come to, for the law FnHeap. Each under the conditions that it names. -/
import Derived.Test.YtijgokehlicmnaaDFnHeap
namespace Go.Proofs.Ytijgokehlicmnaa.GFnHeap
open Go Go.Rsc Go.Proofs.Ytijgokehlicmnaa
set_option maxRecDepth 100000
set_option linter.unusedVariables false
set_option linter.unusedSimpArgs false
theorem copyI {l : List PV} (hl : l.length ≤ 1048576) : Rn 90 [.list l] [.list l] :=
  Is.of e90 (Evt.all fun n => by simp (disch := omega) [F90, leNT])
/-! ### A block is put -/
def hdW (fn : Bool) (tag : Int) (len : Nat) : Int := 2 * (2 * (64 * tag + len) + (if fn then 1 else 0)) + 1
def putK (W : List Int) (nx : Nat) (hd : Int) (K : List Int) (k : Nat) : List Int := W.take nx ++ hd :: (K.take k ++ W.drop (nx + 1 + k))
def putW (W : List Int) (nx : Nat) (hd : Int) (K : List Int) : List Int := putK W nx hd K K.length
theorem putK_len {W : List Int} {nx : Nat} {hd : Int} {K : List Int} {k : Nat} (h : nx + 1 + k ≤ W.length) (hk : k ≤ K.length) : (putK W nx hd K k).length = W.length := by
  simp [putK]
  omega
theorem set_put {W : List Int} {nx : Nat} {hd : Int} {K : List Int} (h : nx < W.length) : W.set nx hd = putK W nx hd K 0 := by
  rw [List.set_eq_take_append_cons_drop, if_pos h]
  simp [putK]
theorem put_step {W : List Int} {nx : Nat} {hd : Int} {K : List Int} {k : Nat} (h : nx + 1 + k < W.length) (hk : k < K.length) : (putK W nx hd K k).set (nx + 1 + k) (gw K k) = putK W nx hd K (k + 1) := by
  have e1 : W.drop (nx + 1 + k) = gw W (nx + 1 + k) :: W.drop (nx + 1 + (k + 1)) := drop_gw (R := W) h
  have e2 : K.take (k + 1) = K.take k ++ [gw K k] := by
    rw [List.take_add_one, List.getElem?_eq_getElem hk]
    simp [gw, List.getD_eq_getElem?_getD, hk]
  unfold putK
  rw [e1, e2]
  have hl : (W.take nx ++ hd :: K.take k).length = nx + 1 + k := by simp; omega
  have h3 : ∀ x : Int, W.take nx ++ hd :: (K.take k ++ x :: W.drop (nx + 1 + (k + 1))) = (W.take nx ++ hd :: K.take k) ++ x :: W.drop (nx + 1 + (k + 1)) := fun x => by simp
  rw [h3]
  rw [List.set_append_right _ _ (by omega), hl, Nat.sub_self]
  simp
theorem splice_put {W : List Int} {nx : Nat} {hd : Int} {K : List Int} (h : nx + 1 + K.length ≤ W.length) : spliceL ((W.set nx hd).map PV.int) (nx + 1) (min K.length (W.length - (nx + 1))) (K.map PV.int) = (putW W nx hd K).map PV.int := by
  rw [Nat.min_eq_left (by omega), List.set_eq_take_append_cons_drop, if_pos (by omega)]
  unfold spliceL putW putK
  have hl : ((W.take nx ++ [hd]).map PV.int).length = nx + 1 := by simp; omega
  have e : (W.take nx ++ hd :: W.drop (nx + 1)).map PV.int = (W.take nx ++ [hd]).map PV.int ++ (W.drop (nx + 1)).map PV.int := by simp
  rw [e, List.take_left' hl, List.drop_append, hl, List.drop_eq_nil_of_le (by omega)]
  have ht : List.take K.length (K.map PV.int) = K.map PV.int := List.take_of_length_le (by simp)
  simp [List.map_drop, Nat.add_assoc, ht]
theorem gw_big {W : List Int} (h : ∀ w, w ∈ W → -9223372036854775808 ≤ w ∧ w < 9223372036854775808) (i : Nat) : -9223372036854775808 ≤ gw W i ∧ gw W i < 9223372036854775808 := by
  by_cases hi : i < W.length
  · exact h _ (gw_mem hi)
  · have : gw W i = 0 := by unfold gw; simp [List.getD_eq_getElem?_getD, List.getElem?_eq_none (Nat.le_of_not_lt hi)]
    rw [this]; decide
abbrev Rng (W : List Int) : Prop := ∀ w, w ∈ W → -9223372036854775808 ≤ w ∧ w < 9223372036854775808
theorem putW_rng {W K : List Int} {nx : Nat} {hd : Int} (hW : Rng W) (hK : Rng K) (hh : -9223372036854775808 ≤ hd ∧ hd < 9223372036854775808) : Rng (putW W nx hd K) := fun w hw => by
  unfold putW putK at hw
  simp only [List.mem_append, List.mem_cons] at hw
  rcases hw with hw | rfl | hw | hw
  · exact hW w (List.mem_of_mem_take hw)
  · exact hh
  · exact hK w (List.mem_of_mem_take hw)
  · exact hW w (List.mem_of_mem_drop hw)
def allocOk (W : List Int) (half base next : Int) (fn : Bool) (tag : Int) (K : List Int) : Bool :=
  heapB W half base next && (okR tag 0 3000 && (leI K.length 20 && (ltI K.length (base + half - next) && heapB (putW W next.toNat (hdW fn tag K.length) K) half base (next + 1 + K.length))))
def allocR (W : List Int) (half base next : Int) (fn : Bool) (tag : Int) (K : List Int) : List PV :=
  if allocOk W half base next fn tag K then [heapV (putW W next.toNat (hdW fn tag K.length) K) half base (next + 1 + K.length), .int next, .bool true] else [heapV W half base next, .int 0, .bool false]
section
variable {W K : List Int} {half base next tag : Int} {fn : Bool}
theorem hdW_rng (ht : 0 ≤ tag ∧ tag ≤ 3000) (hk : K.length ≤ 20) : 0 ≤ hdW fn tag K.length ∧ hdW fn tag K.length < 1000000 := by
  unfold hdW
  cases fn <;> simp <;> omega
theorem hcopyS (hW : W.length ≤ 1048576) : Rn 86 [heapV W half base next] [heapV W half base next] :=
  Is.of e86 (Evt.all fun n => by have := wordsLen W; simp (disch := omega) [F86, leNT, this])
theorem hcopyI (hW : W.length ≤ 1048576) : Rn 89 [heapV W half base next] [heapV W half base next] :=
  Is.of e89 ((copyI (l := W.map PV.int) (by simpa using hW)).mp fun n q => by simp [F89, q])
theorem headS (ht : 0 ≤ tag ∧ tag ≤ 3000) (hk : K.length ≤ 20) : Rn 166 [.bool fn, .int tag, .int K.length] [.int (hdW fn tag K.length)] := by
  have hb : Rn 193 [.bool fn] [.int (if fn then 1 else 0)] := Is.of e193 (Evt.all fun n => by cases fn <;> simp [F193])
  refine Is.of e166 (hb.mp fun n q => ?_)
  unfold hdW
  cases fn <;> simp at q <;> simp (disch := omega) [F166, q, wrap64]
theorem putS (hp : Pre W half base next) (ht : 0 ≤ tag ∧ tag ≤ 3000) (hk : K.length ≤ 20) : Rn 105 [heapV W half base next, .bool fn, .int tag, words K] (if ltI K.length (base + half - next) then [heapV (putW W next.toNat (hdW fn tag K.length) K) half base (next + 1 + K.length), .int next, .bool true] else [heapV W half base next, .int 0, .bool false]) := by
  have hr := hp.rng
  obtain ⟨g1, g2, g3, g4⟩ := hp
  have hl := wordsLen W
  have hkl := wordsLen K
  have w1 : IntKind.i64.wrap (IntKind.i64.wrap (base + half) - next) = base + half - next := by rw [wrap64 (x := base + half) (by omega) (by omega), wrap64 (by omega) (by omega)]
  by_cases hc : (K.length : Int) < base + half - next
  rotate_left
  · rw [ltF (by omega)]
    refine Is.of e105 (Evt.all fun n => ?_)
    simp (disch := omega) [F105, w1, hkl, geT]
  rw [ltT hc]
  generalize hnx : next.toNat = nx at *
  obtain rfl : (nx : Int) = next := by omega
  have hloop := loop_run (body := fun n => L105_0 (ev Try.prog sg n) n) (fun k => [.int k, words K, .int nx, heapV (putK W nx (hdW fn tag K.length) K k) half base nx, .agg [.list [], .int 0, .int 0, .int 0]]) K.length (e := .x 0) (res := [words K, .int nx, heapV (putW W nx (hdW fn tag K.length) K) half base nx, .agg [.list [], .int 0, .int 0, .int 0]]) (fun k hk2 => Evt.all fun n => ?_) (Evt.all fun n => ?_) (by simp)
  · refine Is.of e105 ((headS (K := K) (fn := fn) ht hk).mp2 hloop fun n q1 q2 => ?_)
    have hs : ((W.map PV.int).set nx (.int (hdW fn tag K.length))) = (putK W nx (hdW fn tag K.length) K 0).map PV.int := by rw [← set_put (K := K) (by omega), List.map_set]
    have e0 : (nx : Int).toNat = nx := rfl
    simp only [show ((0 : Nat) : Int) = 0 from rfl] at q2
    simp (disch := omega) [F105, w1, hkl, geF, q1, geT, ltT, hl, hs, q2, wrap64]
  · have hn := nth_gw (W := K) (i := k) hk2
    have h1 := putK_len (W := W) (nx := nx) (hd := hdW fn tag K.length) (K := K) (k := k) (by omega) (by omega)
    have h2 := wordsLen (putK W nx (hdW fn tag K.length) K k)
    have h3 : ((putK W nx (hdW fn tag K.length) K k).map PV.int).set (nx + 1 + k) (.int (gw K k)) = (putK W nx (hdW fn tag K.length) K (k + 1)).map PV.int := by rw [← put_step (by omega) hk2, List.map_set]
    have e1 : ((nx : Int) + 1 + (k : Int)).toNat = nx + 1 + k := by omega
    generalize putK W nx (hdW fn tag K.length) K k = T at h1 h2 h3
    generalize putK W nx (hdW fn tag K.length) K (k + 1) = T' at h3
    simp (disch := omega) [L105_0, ltT, geT, hkl, hn, h2, wrap64, e1, h3]
  · unfold putW
    generalize putK W nx (hdW fn tag K.length) K K.length = T
    simp (disch := omega) [L105_0, ltF, hkl]
theorem allocS (hW : W.length ≤ 1048576) (hW2 : Rng W) (hK : Rng K) (hKl : K.length ≤ 1048576) : Rn 31 [heapV W half base next, .bool fn, .int tag, words K] (allocR W half base next fn tag K) := by
  have hkl := wordsLen K
  have r1 := heapS (half := half) (base := base) (next := next) hW fun w hw => (hW2 w hw).2
  have rc := hcopyS (half := half) (base := base) (next := next) hW
  unfold allocR allocOk
  cases c1 : heapB W half base next with
  | false =>
    rw [c1] at r1
    exact Is.of e31 (r1.mp2 rc fun n q1 q2 => by simp [F31, q1, q2, isB_unit])
  | true =>
  rw [c1] at r1
  have r2 := is51 tag 0 3000
  cases c2 : okR tag 0 3000 with
  | false =>
    rw [c2] at r2
    exact Is.of e31 (r1.mp3 rc r2 fun n q1 q2 q3 => by simp [F31, q1, q2, q3, isB_unit])
  | true =>
  rw [c2] at r2
  have ht := okR_in c2
  by_cases c3 : (K.length : Int) ≤ 20
  rotate_left
  · exact Is.of e31 (r1.mp3 rc r2 fun n q1 q2 q3 => by simp [F31, q1, q2, q3, isB_unit, hkl, gtT (Int.not_le.1 c3), leF (Int.not_le.1 c3)])
  have hp := (heapB_pre c1).2
  have hr := hp.rng
  have r4 := putS (W := W) (K := K) (half := half) (base := base) (next := next) (tag := tag) (fn := fn) hp ht (by omega)
  rw [leT c3]
  cases c4 : ltI K.length (base + half - next) with
  | false =>
    rw [c4] at r4
    exact Is.of e31 ((r1.and rc).mp3 r2 r4 fun n ⟨q1, q2⟩ q3 q4 => by simp at q4; simp [F31, q1, q2, q3, q4, isB_unit, hkl, gtF c3])
  | true =>
  rw [c4] at r4
  simp only [if_true] at r4
  have hlt : (K.length : Int) < base + half - next := by simpa [ltI] using c4
  obtain ⟨g1, g2, g3, g4⟩ := hp
  have hpl : (putW W next.toNat (hdW fn tag K.length) K).length ≤ 1048576 := by
    unfold putW
    rw [putK_len (by omega) (Nat.le_refl _)]; exact hW
  have hh := hdW_rng (K := K) (fn := fn) ht (by omega)
  have r5 := heapS (half := half) (base := base) (next := next + 1 + K.length) hpl fun w hw => (putW_rng hW2 hK (by omega) w hw).2
  generalize putW W next.toNat (hdW fn tag K.length) K = W' at r4 r5
  cases c5 : heapB W' half base (next + 1 + K.length) <;> rw [c5] at r5 <;>
    exact Is.of e31 ((r1.and rc).mp4 r2 r4 r5 fun n ⟨q1, q2⟩ q3 q4 q5 => by simp [F31, q1, q2, q3, q4, q5, isB_unit, hkl, gtF c3])
theorem roomI (hW : W.length ≤ 1048576) : Rn 43 [heapV W half base next] [.int (if heapB W half base next then IntKind.i64.wrap (IntKind.i64.wrap (base + half) - next) else 0)] := by
  refine Is.of e43 ((heapI (half := half) (base := base) (next := next) hW).mp fun n q => ?_)
  cases c1 : heapB W half base next <;> rw [c1] at q <;> simp [F43, q]
theorem roomS (hW : W.length ≤ 1048576) (hW2 : Rng W) : Rn 44 [heapV W half base next] [.int (if heapB W half base next then IntKind.i64.wrap (IntKind.i64.wrap (base + half) - next) else 0)] := by
  refine Is.of e44 ((heapS (half := half) (base := base) (next := next) hW fun w hw => (hW2 w hw).2).mp fun n q => ?_)
  cases c1 : heapB W half base next <;> rw [c1] at q <;> simp [F44, q]
theorem wordI {x : Int} (h0 : -1073741824 ≤ x) (h1 : x ≤ 1073741823) : Rn 103 [.int x] [.int (2 * x + 1)] := by
  have e : okW x = true := by simp [okW]; omega
  refine Is.of e103 ((is102 x).mp fun n q => ?_)
  rw [e] at q
  simp (disch := omega) [F103, q, wrap64]
set_option maxHeartbeats 2000000 in
theorem allocI (hW : W.length ≤ 1048576) (hKl : K.length ≤ 1048576) : Rn 30 [heapV W half base next, .bool fn, .int tag, words K] (allocR W half base next fn tag K) := by
  have hkl := wordsLen K
  have hwl := wordsLen W
  have r1 := heapI (half := half) (base := base) (next := next) hW
  have rc := hcopyI (half := half) (base := base) (next := next) hW
  unfold allocR allocOk
  cases c1 : heapB W half base next with
  | false =>
    rw [c1] at r1
    exact Is.of e30 (r1.mp2 rc fun n q1 q2 => by simp [F30, q1, q2, isB_unit])
  | true =>
  rw [c1] at r1
  have r2 := is54 tag 0 3000
  cases c2 : okR tag 0 3000 with
  | false =>
    rw [c2] at r2
    exact Is.of e30 (r1.mp3 rc r2 fun n q1 q2 q3 => by simp [F30, q1, q2, q3, isB_unit])
  | true =>
  rw [c2] at r2
  have ht := okR_in c2
  by_cases c3 : (K.length : Int) ≤ 20
  rotate_left
  · exact Is.of e30 (r1.mp3 rc r2 fun n q1 q2 q3 => by simp [F30, q1, q2, q3, isB_unit, hkl, gtT (Int.not_le.1 c3), leF (Int.not_le.1 c3)])
  have hp := (heapB_pre c1).2
  have hr := hp.rng
  obtain ⟨g1, g2, g3, g4⟩ := hp
  have r3 := roomI (half := half) (base := base) (next := next) hW
  rw [c1, wrap64 (x := base + half) (by omega) (by omega), wrap64 (x := base + half - next) (by omega) (by omega)] at r3
  simp only [if_true] at r3
  rw [leT c3]
  have w0 : IntKind.i64.wrap ((K.length : Int) + 1) = K.length + 1 := wrap64 (by omega) (by omega)
  by_cases c4 : (K.length : Int) < base + half - next
  rotate_left
  · rw [ltF (by omega)]
    exact Is.of e30 ((r1.and rc).mp3 r2 r3 fun n ⟨q1, q2⟩ q3 q4 => by simp (disch := omega) [F30, q1, q2, q3, q4, isB_unit, hkl, gtF c3, w0, gtT])
  rw [ltT c4]
  have hh := hdW_rng (K := K) (fn := fn) ht (by omega)
  generalize hnx : next.toNat = nx at *
  obtain rfl : (nx : Int) = next := by omega
  have hpl : (putW W nx (hdW fn tag K.length) K).length = W.length := by
    unfold putW
    exact putK_len (by omega) (Nat.le_refl _)
  have hsl : ((W.set nx (hdW fn tag K.length)).map PV.int).length = W.length := by simp
  have hsp := splice_put (W := W) (nx := nx) (hd := hdW fn tag K.length) (K := K) (by omega)
  have hst : (W.map PV.int).set nx (.int (hdW fn tag K.length)) = (W.set nx (hdW fn tag K.length)).map PV.int := List.map_set.symm
  have r5 := heapI (half := half) (base := base) (next := (nx : Int) + 1 + K.length) (W := putW W nx (hdW fn tag K.length) K) (by omega)
  have eW : Rn 103 [.int (2 * (64 * tag + K.length) + (if fn then 1 else 0))] [.int (hdW fn tag K.length)] := by
    have := wordI (x := 2 * (64 * tag + K.length) + (if fn then 1 else 0)) (by cases fn <;> simp <;> omega) (by cases fn <;> simp <;> omega)
    exact this
  have w1 : IntKind.i64.wrap (IntKind.i64.wrap (2 * IntKind.i64.wrap (IntKind.i64.wrap (64 * tag) + (K.length : Int))) + 1) = 2 * (64 * tag + K.length) + 1 := by
    rw [wrap64 (x := 64 * tag) (by omega) (by omega), wrap64 (x := 64 * tag + (K.length : Int)) (by omega) (by omega), wrap64 (x := 2 * (64 * tag + (K.length : Int))) (by omega) (by omega), wrap64 (by omega) (by omega)]
  have w2 : IntKind.i64.wrap (2 * IntKind.i64.wrap (IntKind.i64.wrap (64 * tag) + (K.length : Int))) = 2 * (64 * tag + K.length) := by
    rw [wrap64 (x := 64 * tag) (by omega) (by omega), wrap64 (x := 64 * tag + (K.length : Int)) (by omega) (by omega), wrap64 (by omega) (by omega)]
  have w5 : IntKind.i64.wrap (2 * (64 * tag + (K.length : Int)) + 1) = 2 * (64 * tag + K.length) + 1 := wrap64 (by omega) (by omega)
  have w3 : IntKind.i64.wrap ((nx : Int) + 1) = ((nx + 1 : Nat) : Int) := by rw [wrap64 (by omega) (by omega)]; omega
  have w4 : IntKind.i64.wrap ((nx : Int) + IntKind.i64.wrap (1 + (K.length : Int))) = (nx : Int) + 1 + K.length := by rw [wrap64 (x := 1 + (K.length : Int)) (by omega) (by omega), wrap64 (by omega) (by omega)]; omega
  generalize hpw : putW W nx (hdW fn tag K.length) K = W' at *
  generalize hws : (W.set nx (hdW fn tag K.length)).map PV.int = WS at *
  cases c5 : heapB W' half base ((nx : Int) + 1 + K.length) <;> rw [c5] at r5 <;> cases fn <;>
    refine Is.of e30 (((r1.and rc).and (r2.and r3)).mp3 eW r5 fun n ⟨⟨q1, q2⟩, q3, q4⟩ q5 q6 => ?_) <;> simp only [Bool.false_eq_true, if_false, if_true, Int.add_zero] at q5 <;>
    simp (disch := omega) only [F30, nth_0, nth_1, nth_2, nth_3, nth_4, fld_agg, setFld_agg, List.set_cons_zero, List.set_cons_succ, toInt_int, toList_list, toBool_bool, q1, q2, q3, q4, Option.bind_some, Bool.not_true, Bool.not_false, Bool.false_eq_true, beq_self_eq_true, selB_true, selB_false, isB_bool, isB_unit, iff_true', iff_false', hkl, hwl, gtF, w0, thenN_n, w2, w5, q5, geT, ltT, leT, Int.toNat_natCast, hst, hsl, w3, hsp, w4, q6] <;> simp
end
end Go.Proofs.Ytijgokehlicmnaa.GFnHeap
