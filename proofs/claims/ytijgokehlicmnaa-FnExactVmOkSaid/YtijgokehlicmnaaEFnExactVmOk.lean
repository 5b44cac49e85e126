/- What functions of the program and of the reference come to, for the law FnExactVmOk. Each under the conditions that it names. -/
import Derived.Test.YtijgokehlicmnaaDFnExactVmOk
namespace Go.Proofs.Ytijgokehlicmnaa.GFnExactVmOk
open Go Go.Rsc Go.Proofs.Ytijgokehlicmnaa
set_option maxRecDepth 100000
set_option linter.unusedVariables false
set_option linter.unusedSimpArgs false
/-! ### A heap is right -/
theorem drop_take_nth {l : List PV} {a b k : Nat} (hk : k < b) : nth ((l.drop a).take b) k = nth l (a + k) := by
  unfold nth
  simp [List.getD_eq_getElem?_getD, List.getElem?_take, hk]
theorem kidsLen {W : List Int} {a b : Nat} (h : a + b ≤ W.length) : (((W.map PV.int).drop a).take b).length = b := by simp; omega
theorem kidsI {W : List Int} {half base next : Int} {p : Nat} (hp : p + 1 + mny (gw W p) ≤ W.length) (hl : W.length ≤ 1048576) : Rn 92 [heapV W half base next, .int p] [.list (((W.map PV.int).drop (p + 1)).take (mny (gw W p)))] := by
  have hn := nth_gw (W := W) (i := p) (by omega)
  have hm := mny_lt (gw W p)
  refine Is.of e92 ((hdrI (gw W p)).mp fun n q => ?_)
  simp (disch := omega) [F92, geT, ltT, leT, hn, q, wrap64]
  have e2 : ((p : Int) + 1 + (mny (gw W p) : Int)).toNat = p + 1 + mny (gw W p) := by omega
  rw [e2, Nat.add_sub_cancel_left]
theorem sel_and' (a : Bool) (x : PV) (b : Bool) (h : a = true → x = .bool b) : selB a x (.bool false) = .bool (a && b) := by
  cases a with
  | false => rfl
  | true => rw [h rfl]; rfl
theorem bad_there (P : List Nat) (w : Int) : there P w = (!eqI (w % 2) 0 && okW (w / 2) || eqI (w % 2) 0 && inP P (w / 2)) := rfl
theorem kidLoopI {W : List Int} {half base next : Int} (h : Pre W half base next) {P : List Nat} (hs : P.Pairwise (· < ·)) (hP : P.length ≤ 1048576) {p : Nat} (hp : p + 1 + mny (gw W p) ≤ W.length) (a b : PV) :
    Evt fun n => loopEv (L33_0 (ev Try.prog sg n) n) n [.int 0, .int (mny (gw W p)), .list (((W.map PV.int).drop (p + 1)).take (mny (gw W p))), a, b, nats P, heapV W half base next] = if kidB W P p then some (.x 2, [a, b, nats P, heapV W half base next]) else some (.r, [.bool false]) := by
  have hr := h.rng
  have hm := mny_lt (gw W p)
  have hkl := kidsLen (W := W) (a := p + 1) (b := mny (gw W p)) hp
  have hnth : ∀ i, i < mny (gw W p) → nth (((W.map PV.int).drop (p + 1)).take (mny (gw W p))) i = .int (gw W (p + 1 + i)) := fun i hi => by rw [drop_take_nth hi, nth_gw (by omega)]
  refine all_loop (body := fun n => L33_0 (ev Try.prog sg n) n) (pay := fun i => [.int i, .int (mny (gw W p)), .list (((W.map PV.int).drop (p + 1)).take (mny (gw W p))), a, b, nats P, heapV W half base next]) (c := fun k => there P (gw W (p + 1 + k))) (e1 := .x 2) (r1 := [a, b, nats P, heapV W half base next]) (e2 := .r) (r2 := [.bool false]) (mny (gw W p)) (by simp) (by simp) (fun i hi hc => ?_) (fun i hi hc => ?_) (Evt.all fun n => ?_)
  · refine (isIntI (gw W (p + 1 + i))).mp2 (isBlockI P (gw W (p + 1 + i)) hs hP) fun n q1 q2 => ?_
    rw [bad_there] at hc
    have hn := hnth i hi
    cases c1 : (!eqI (gw W (p + 1 + i) % 2) 0 && okW (gw W (p + 1 + i) / 2)) <;> cases c2 : (eqI (gw W (p + 1 + i) % 2) 0 && inP P (gw W (p + 1 + i) / 2)) <;> rw [c1] at q1 hc <;> rw [c2] at q2 hc <;> simp at hc <;> simp (disch := omega) [L33_0, ltT, geT, hkl, hn, q1, q2, wrap64]
  · refine (isIntI (gw W (p + 1 + i))).mp2 (isBlockI P (gw W (p + 1 + i)) hs hP) fun n q1 q2 => ?_
    rw [bad_there] at hc
    have hn := hnth i hi
    cases c1 : (!eqI (gw W (p + 1 + i) % 2) 0 && okW (gw W (p + 1 + i) / 2)) <;> cases c2 : (eqI (gw W (p + 1 + i) % 2) 0 && inP P (gw W (p + 1 + i) / 2)) <;> rw [c1] at q1 hc <;> rw [c2] at q2 hc <;> simp at hc <;> simp (disch := omega) [L33_0, ltT, geT, hkl, hn, q1, q2, wrap64]
  · simp (disch := omega) [L33_0, ltF]
theorem plcs_sorted (W : List Int) (base next : Int) : (plcs W base next).Pairwise (· < ·) := plc_sorted
theorem plcs_len (W : List Int) (base next : Int) : (plcs W base next).length ≤ 3000 := plc_len
theorem heapI {W : List Int} {half base next : Int} (hW : W.length ≤ 1048576) : Rn 33 [heapV W half base next] [.bool (heapB W half base next)] := by
  have hb := blocksI (half := half) (base := base) (next := next) hW
  cases hc : (preB W half base next && plcsB W base next) with
  | false =>
    rw [hc] at hb
    have e : heapB W half base next = false := by
      unfold heapB
      rw [← Bool.and_assoc, hc]; rfl
    rw [e]
    exact Is.of e33 (hb.mp fun n q => by simp at q; simp [F33, q])
  | true =>
    rw [hc] at hb
    simp only [if_true] at hb
    have e : heapB W half base next = (List.range (plcs W base next).length).all fun i => kidB W (plcs W base next) (gp (plcs W base next) i) := by
      unfold heapB
      rw [← Bool.and_assoc, hc]; rfl
    rw [e]
    simp only [Bool.and_eq_true] at hc
    have h := pre_of hc.1
    have hr := h.rng
    have hs := plcs_sorted W base next
    have hP := plcs_len W base next
    have hin : ∀ p, p ∈ plcs W base next → p + 1 + mny (gw W p) ≤ W.length := fun p hp => (plcs_in h hp).1
    generalize plcs W base next = P at *
    have hl := natsLen P
    have h1 := all_loop (body := fun n => L33_1 (ev Try.prog sg n) n) (pay := fun i => [.int i, .int P.length, nats P, heapV W half base next]) (c := fun i => kidB W P (gp P i)) (e1 := .x 0) (r1 := []) (e2 := .r) (r2 := [.bool false]) P.length (by simp) (by simp) (fun i hi hc => ?_) (fun i hi hc => ?_) (Evt.all fun n => ?_)
    · refine Is.of e33 (hb.mp2 h1 fun n q1 q2 => ?_)
      simp only [show ((0 : Nat) : Int) = 0 from rfl] at q2
      cases hk : (List.range P.length).all fun i => kidB W P (gp P i) <;> rw [hk] at q2 <;> simp at q2 <;> simp [F33, q1, q2]
    · have hn := nth_gp hi
      have hm := hin _ (gp_mem hi)
      refine (kidsI (half := half) (base := base) (next := next) hm hW).mp2 (kidLoopI h hs (by omega) hm (.int i) (.int P.length)) fun n q1 q2 => ?_
      have hkl := kidsLen (W := W) (a := gp P i + 1) (b := mny (gw W (gp P i))) hm
      rw [hc] at q2
      simp only [if_true] at q2
      simp (disch := omega) [L33_1, ltT, geT, hl, hn, q1, hkl, q2, wrap64]
    · have hn := nth_gp hi
      have hm := hin _ (gp_mem hi)
      refine (kidsI (half := half) (base := base) (next := next) hm hW).mp2 (kidLoopI h hs (by omega) hm (.int i) (.int P.length)) fun n q1 q2 => ?_
      have hkl := kidsLen (W := W) (a := gp P i + 1) (b := mny (gw W (gp P i))) hm
      rw [hc] at q2
      simp only [Bool.false_eq_true, if_false] at q2
      simp (disch := omega) [L33_1, ltT, geT, hl, hn, q1, hkl, q2, wrap64]
    · simp (disch := omega) [L33_1, ltF]
theorem kidLoopS {W : List Int} {half base next : Int} (h : Pre W half base next) {P : List Nat} (hP : P.length ≤ 1048576) {i0 : Nat} (hi0 : i0 < P.length) (hp : gp P i0 + 1 + mny (gw W (gp P i0)) ≤ W.length) :
    Evt fun n => loopEv (L34_0 (ev Try.prog sg n) n) n [.int 1, .int (mny (gw W (gp P i0))), .int i0, nats P, heapV W half base next] = if kidB W P (gp P i0) then some (.x 2, [.int i0, nats P, heapV W half base next]) else some (.r, [.bool false]) := by
  have hr := h.rng
  have hm := mny_lt (gw W (gp P i0))
  have hl := natsLen P
  have hn0 := nth_gp hi0
  have hnth : ∀ i, i < mny (gw W (gp P i0)) → nth (W.map PV.int) (gp P i0 + 1 + i) = .int (gw W (gp P i0 + 1 + i)) := fun i hi => nth_gw (by omega)
  have := all_loop (body := fun n => L34_0 (ev Try.prog sg n) n) (pay := fun i => [.int ((i + 1 : Nat) : Int), .int (mny (gw W (gp P i0))), .int i0, nats P, heapV W half base next]) (c := fun k => there P (gw W (gp P i0 + 1 + k))) (e1 := .x 2) (r1 := [.int i0, nats P, heapV W half base next]) (e2 := .r) (r2 := [.bool false]) (mny (gw W (gp P i0))) (by simp) (by simp) (fun i hi hc => ?_) (fun i hi hc => ?_) (Evt.all fun n => ?_)
  · exact this
  · refine (thereS P (gw W (gp P i0 + 1 + i)) hP).mp fun n q1 => ?_
    have hn := hnth i hi
    have e1 : ((gp P i0 : Int) + ((i : Int) + 1)).toNat = gp P i0 + 1 + i := by omega
    rw [hc] at q1
    simp (disch := omega) [L34_0, leT, ltT, geT, hl, hn0, wrap64, e1, hn, q1]
  · refine (thereS P (gw W (gp P i0 + 1 + i)) hP).mp fun n q1 => ?_
    have hn := hnth i hi
    have e1 : ((gp P i0 : Int) + ((i : Int) + 1)).toNat = gp P i0 + 1 + i := by omega
    rw [hc] at q1
    simp (disch := omega) [L34_0, leT, ltT, geT, hl, hn0, wrap64, e1, hn, q1]
  · simp (disch := omega) [L34_0, leF]
theorem heapS {W : List Int} {half base next : Int} (hW : W.length ≤ 1048576) (hW2 : ∀ w, w ∈ W → w < 9223372036854775808) : Rn 34 [heapV W half base next] [.bool (heapB W half base next)] := by
  have hl := wordsLen W
  have r1 := is51 half 1 3000
  by_cases c1 : okR half 1 3000 = true
  rotate_left
  · have c1 : okR half 1 3000 = false := by simpa using c1
    rw [c1] at r1
    refine Is.of e34 (r1.mp fun n q1 => ?_)
    simp [F34, q1, heapB, preB, c1]
  have hh := okR_in c1
  rw [c1] at r1
  have w1 : IntKind.i64.wrap (2 * half) = 2 * half := wrap64 (by omega) (by omega)
  by_cases c2 : (W.length : Int) = 2 * half
  rotate_left
  · refine Is.of e34 (r1.mp fun n q1 => ?_)
    simp [F34, q1, heapB, preB, c1, w1, neT c2, eqF c2]
  by_cases c3 : base = 0 ∨ base = half
  rotate_left
  · have c30 : base ≠ 0 := fun e => c3 (.inl e)
    have c31 : base ≠ half := fun e => c3 (.inr e)
    refine Is.of e34 (r1.mp fun n q1 => ?_)
    simp [F34, q1, heapB, preB, c1, w1, neF c2, eqT c2, neT c30, neT c31, eqF c30, eqF c31]
  have w2 : IntKind.i64.wrap (base + half) = base + half := wrap64 (by omega) (by omega)
  have c5 : (eqI base 0 || eqI base half) = true := by
    rcases c3 with e | e
    · rw [eqT e]; rfl
    · rw [eqT e, Bool.or_true]
  have r2 := is51 next base (base + half)
  have hv : ∀ n, ev Try.prog sg n 104 [.int half, .int 1, .int 3000] = some [.bool true] → ev Try.prog sg n 104 [.int next, .int base, .int (base + half)] = some [.bool (okR next base (base + half))] →
      F34 (ev Try.prog sg n) n [heapV W half base next] = if okR next base (base + half) then ((ev Try.prog sg n 79 [heapV W half base next]).bind fun r7 => (iff (!(nth r7 1).toBool) (some [(PV.bool false)]) (thenN (thenE (loopEv (L34_1 (ev Try.prog sg n) n) n [(PV.int (0 : Int)), (nth r7 0), heapV W half base next]) (passB 0)) (fun p13 => (some [(PV.bool true)])) (retE fun q14 => [(nth q14 0)])))) else some [.bool false] := fun n q1 q2 => by
    rcases c3 with e | e
    · cases hb : okR next base (base + half) <;> rw [hb] at q2 <;> simp [F34, q1, q2, w1, w2, neF c2, neF e]
    · by_cases e0 : base = 0
      · cases hb : okR next base (base + half) <;> rw [hb] at q2 <;> simp [F34, q1, q2, w1, w2, neF c2, neF e0]
      · cases hb : okR next base (base + half) <;> rw [hb] at q2 <;> simp [F34, q1, q2, w1, w2, neF c2, neF e, neT e0]
  cases hn : okR next base (base + half) with
  | false =>
    rw [hn] at r2
    refine Is.of e34 (r1.mp2 r2 fun n q1 q2 => ?_)
    rw [hv n q1 (by rw [hn]; exact q2), hn]
    simp [heapB, preB, c1, eqT c2, c5, hn]
  | true =>
    have hp : preB W half base next = true := by simp [preB, c1, eqT c2, c5, hn]
    have h := pre_of hp
    have hr := h.rng
    rw [hn] at r2
    have hpl := placesS h hW2
    have e : heapB W half base next = (plcsB W base next && (List.range (plcs W base next).length).all fun i => kidB W (plcs W base next) (gp (plcs W base next) i)) := by
      unfold heapB
      rw [hp]; rfl
    rw [e]
    have hP := plcs_len W base next
    have hin : ∀ p, p ∈ plcs W base next → p + 1 + mny (gw W p) ≤ W.length := fun p hp => (plcs_in h hp).1
    generalize plcs W base next = P at *
    cases hb : plcsB W base next with
    | false =>
      rw [hb] at hpl
      refine Is.of e34 (r1.mp3 r2 hpl fun n q1 q2 q3 => ?_)
      rw [hv n q1 (by rw [hn]; exact q2), hn, if_pos rfl, q3]
      simp
    | true =>
      rw [hb] at hpl
      have hl := natsLen P
      have h1 := all_loop (body := fun n => L34_1 (ev Try.prog sg n) n) (pay := fun i => [.int i, nats P, heapV W half base next]) (c := fun i => kidB W P (gp P i)) (e1 := .x 0) (r1 := []) (e2 := .r) (r2 := [.bool false]) P.length (by simp) (by simp) (fun i hi hc => ?_) (fun i hi hc => ?_) (Evt.all fun n => ?_)
      · refine Is.of e34 (r1.mp4 r2 hpl h1 fun n q1 q2 q3 q4 => ?_)
        rw [hv n q1 (by rw [hn]; exact q2), hn, if_pos rfl, q3]
        simp only [show ((0 : Nat) : Int) = 0 from rfl] at q4
        cases hk : (List.range P.length).all fun i => kidB W P (gp P i) <;> rw [hk] at q4 <;> simp at q4 <;> simp [q4]
      · have hn := nth_gp hi
        have hm := hin _ (gp_mem hi)
        have hn1 := nth_gw (W := W) (i := gp P i) (by omega)
        refine (ofS (gw W (gp P i))).mp2 (kidLoopS h (by omega) hi hm) fun n q1 q2 => ?_
        rw [hc] at q2
        simp only [if_true] at q2
        simp (disch := omega) [L34_1, ltT, geT, hl, hn, hn1, q1, q2, wrap64]
      · have hn := nth_gp hi
        have hm := hin _ (gp_mem hi)
        have hn1 := nth_gw (W := W) (i := gp P i) (by omega)
        refine (ofS (gw W (gp P i))).mp2 (kidLoopS h (by omega) hi hm) fun n q1 q2 => ?_
        rw [hc] at q2
        simp only [Bool.false_eq_true, if_false] at q2
        simp (disch := omega) [L34_1, ltT, geT, hl, hn, hn1, q1, q2, wrap64]
      · simp (disch := omega) [L34_1, ltF]
end Go.Proofs.Ytijgokehlicmnaa.GFnExactVmOk
