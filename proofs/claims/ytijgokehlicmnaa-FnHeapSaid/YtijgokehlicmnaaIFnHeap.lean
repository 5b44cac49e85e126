/- What functions of the program and of the reference come to, for the law FnHeap. Each under the conditions that it names. -/
import Derived.Test.YtijgokehlicmnaaHFnHeap
namespace Go.Proofs.Ytijgokehlicmnaa.GFnHeap
open Go Go.Rsc Go.Proofs.Ytijgokehlicmnaa
set_option maxRecDepth 100000
set_option linter.unusedVariables false
set_option linter.unusedSimpArgs false
section
variable {W : List Int} {half base next : Int}
structure HOk (W : List Int) (half base next : Int) (P : List Nat) : Prop where
  pre : Pre W half base next
  len : W.length ≤ 1048576
  big : ∀ w, w ∈ W → -9223372036854775808 ≤ w ∧ w < 9223372036854775808
  blk : Rn 106 [heapV W half base next] [nats P, .bool true]
  sorted : P.Pairwise (· < ·)
  plen : P.length ≤ 3000
  mem : ∀ p, p ∈ P → p + 1 + mny (gw W p) ≤ W.length ∧ okHd (gw W p) = true
theorem hok (hW : W.length ≤ 1048576) (hW2 : ∀ w, w ∈ W → -9223372036854775808 ≤ w ∧ w < 9223372036854775808) (h : heapB W half base next = true) : HOk W half base next (plcs W base next) := by
  obtain ⟨h1, h2⟩ := heapB_pre h
  have hb := blocksI (half := half) (base := base) (next := next) hW
  rw [h1] at hb
  exact ⟨h2, hW, hW2, by simpa using hb, plcs_sorted W base next, plcs_len W base next, fun p hp => plcs_in h2 hp⟩
theorem atI {P : List Nat} (h : HOk W half base next P) (p : Int) : Rn 112 [heapV W half base next, .int p] (if inP P p then [.bool (eqI (gw W p.toNat / 2 % 2) 1), .int (gw W p.toNat / 2 / 128), .list (((W.map PV.int).drop (p.toNat + 1)).take (mny (gw W p.toNat))), .bool true] else [.bool false, .int 0, .list [], .bool false]) := by
  obtain ⟨r, hr⟩ := bsI P p h.sorted (by have := h.plen; omega)
  cases hc : inP P p with
  | false =>
    rw [hc] at hr
    refine Is.of e112 (h.blk.mp2 hr fun n q1 q2 => ?_)
    simp [F112, q1, q2]
  | true =>
    rw [hc] at hr
    obtain ⟨q, hq, rfl⟩ := inP_iff.1 hc
    have hm := h.mem q hq
    have hl := h.len
    have hn := nth_gw (W := W) (i := q) (by omega)
    have hkl := kidsLen (W := W) (a := q + 1) (b := mny (gw W q)) hm.1
    refine Is.of e112 ((h.blk.and hr).mp4 (hdrI (gw W q)) (kidsI (half := half) (base := base) (next := next) hm.1 hl) (copyI (l := ((W.map PV.int).drop (q + 1)).take (mny (gw W q))) (by have := mny_lt (gw W q); omega)) fun n q1 q2 q3 q4 => ?_)
    simp (disch := omega) [F112, q1, q2, q3, q4, geT, ltT, hn]
end
def blockR (W : List Int) (half base next p : Int) : List PV := if heapB W half base next && inP (plcs W base next) p then [.bool (eqI (gw W p.toNat / 2 % 2) 1), .int (gw W p.toNat / 2 / 128), .list (((W.map PV.int).drop (p.toNat + 1)).take (mny (gw W p.toNat))), .bool true] else [.bool false, .int 0, .list [], .bool false]
section
variable {W K : List Int} {half base next tag p : Int} {fn : Bool}
theorem blockI (hW : W.length ≤ 1048576) (hW2 : Rng W) : Rn 36 [heapV W half base next, .int p] (blockR W half base next p) := by
  have r1 := heapI (half := half) (base := base) (next := next) hW
  unfold blockR
  cases c1 : heapB W half base next with
  | false =>
    rw [c1] at r1
    exact Is.of e36 (r1.mp fun n q => by simp [F36, q])
  | true =>
    rw [c1] at r1
    have r2 := atI (hok hW hW2 c1) p
    cases c2 : inP (plcs W base next) p <;> rw [c2] at r2
    · exact Is.of e36 (r1.mp2 r2 fun n q1 q2 => by simp at q2; simp [F36, q1, q2])
    · simp only [if_true] at r2
      exact Is.of e36 (r1.mp2 r2 fun n q1 q2 => by simp [F36, q1, q2])
theorem blockS (hW : W.length ≤ 1048576) (hW2 : Rng W) : Rn 37 [heapV W half base next, .int p] (blockR W half base next p) := by
  have r1 := heapS (half := half) (base := base) (next := next) hW fun w hw => (hW2 w hw).2
  unfold blockR
  cases c1 : heapB W half base next with
  | false =>
    rw [c1] at r1
    exact Is.of e37 (r1.mp fun n q => by simp [F37, q])
  | true =>
  rw [c1] at r1
  have hp := (heapB_pre c1).2
  have r2 := placesS hp fun w hw => (hW2 w hw).2
  have hP := plcs_len W base next
  have hin : ∀ q, q ∈ plcs W base next → q + 1 + mny (gw W q) ≤ W.length ∧ okHd (gw W q) = true := fun q hq => plcs_in hp hq
  generalize plcs W base next = P at *
  have r3 := inS P p (by omega)
  cases c2 : inP P p with
  | false =>
    rw [c2] at r3
    exact Is.of e37 (r1.mp3 r2 r3 fun n q1 q2 q3 => by simp [F37, q1, q2, q3])
  | true =>
    rw [c2] at r3
    obtain ⟨q, hq, rfl⟩ := inP_iff.1 c2
    obtain ⟨h1, h2⟩ := hin q hq
    obtain ⟨o1, o2, o3, o4⟩ := okHd_out h2
    have hbig := gw_big hW2 q
    have r4 := ofS (gw W q)
    rw [tagS_eq (by omega) hbig.2] at r4
    have hn := nth_gw (W := W) (i := q) (by omega)
    have hwl := wordsLen W
    have hkl := kidsLen (W := W) (a := q + 1) (b := mny (gw W q)) h1
    have hm := mny_lt (gw W q)
    have w1 : IntKind.i64.wrap ((q : Int) + 1) = ((q + 1 : Nat) : Int) := by rw [wrap64 (by omega) (by omega)]; omega
    have w2 : IntKind.i64.wrap (((q + 1 : Nat) : Int) + (mny (gw W q) : Int)) = ((q + 1 + mny (gw W q) : Nat) : Int) := by rw [wrap64 (by omega) (by omega)]; omega
    refine Is.of e37 ((r1.and r2).mp2 (r3.and r4) fun n ⟨q1, q2⟩ ⟨q3, q4⟩ => ?_)
    simp (disch := omega) only [F37, nth_0, nth_1, nth_2, fld_agg, toInt_int, toList_list, toBool_bool, q1, q2, q3, q4, Option.bind_some, Bool.not_true, iff_true', iff_false', geT, ltT, leT, hwl, hn, Int.toNat_natCast, w1, w2, Nat.add_sub_cancel_left, hkl, List.length_nil, Nat.zero_add, leNT, List.nil_append, Bool.true_and, if_true]
theorem sameI (V : List Int) (hV : V.length ≤ 1048576) : Rn 42 [words V, words V] [.bool true] := by
  have hl := wordsLen V
  have h1 := loop_run (body := fun n => L42_0 (ev Try.prog sg n) n) (fun i => [.int i, words V, words V]) V.length (e := .x 0) (res := []) (fun i hi => Evt.all fun n => ?_) (Evt.all fun n => ?_) (by simp)
  · refine Is.of e42 (h1.mp fun n q => ?_)
    simp at q
    simp (disch := omega) [F42, neF, q]
  · simp (disch := omega) [L42_0, ltT, geT, hl, neF, wrap64]
  · simp (disch := omega) [L42_0, ltF, hl]
theorem sameH (hW : W.length ≤ 1048576) : Rn 32 [heapV W half base next, heapV W half base next] [.bool true] := by
  refine Is.of e32 ((sameI W hW).mp fun n q => ?_)
  simp (disch := omega) [F32, eqT, q]
theorem new_ok {x : Int} (h : okR x 1 3000 = true) : heapB (List.replicate (2 * x).toNat 0) x 0 0 = true := by
  have := okR_in h
  have e : preB (List.replicate (2 * x).toNat 0) x 0 0 = true := by
    simp only [preB, h, Bool.true_and, Bool.and_eq_true, Bool.or_eq_true]
    refine ⟨eqT (by simp; omega), .inl (eqT rfl), by simp [okR]; omega⟩
  have e2 : plc (List.replicate (2 * x).toNat 0) 0 3000 0 = (true, []) := plc_stop (Nat.le_refl _)
  have e3 : plcs (List.replicate (2 * x).toNat 0) 0 0 = [] := by unfold plcs; rw [show (0 : Int).toNat = 0 from rfl, e2]
  have e4 : plcsB (List.replicate (2 * x).toNat 0) 0 0 = true := by unfold plcsB; rw [show (0 : Int).toNat = 0 from rfl, e2]
  unfold heapB
  rw [e, e3, e4]
  rfl
theorem hd_dec {len : Nat} (ht : 0 ≤ tag ∧ tag ≤ 3000) (hk : len ≤ 20) : eqI (hdW fn tag len / 2 % 2) 1 = fn ∧ hdW fn tag len / 2 / 128 = tag ∧ mny (hdW fn tag len) = len ∧ okHd (hdW fn tag len) = true := by
  unfold hdW mny okHd
  cases fn
  · simp only [Bool.false_eq_true, if_false]
    refine ⟨eqF (by omega), by omega, by omega, ?_⟩
    rw [eqF (by omega), geT (by omega), leT (by omega), leT (by omega)]; rfl
  · simp only [if_true]
    refine ⟨eqT (by omega), by omega, by omega, ?_⟩
    rw [eqF (by omega), geT (by omega), leT (by omega), leT (by omega)]; rfl
theorem gw_put_lt {nx : Nat} {hd : Int} {i : Nat} (hi : i < nx) (hn : nx ≤ W.length) : gw (putW W nx hd K) i = gw W i := by
  unfold putW putK gw
  rw [List.getD_eq_getElem?_getD, List.getD_eq_getElem?_getD, List.getElem?_append_left (by simp; omega), List.getElem?_take, if_pos hi]
theorem gw_put_at {nx : Nat} {hd : Int} (hn : nx ≤ W.length) : gw (putW W nx hd K) nx = hd := by
  have hl : (W.take nx).length = nx := by simp; omega
  unfold putW putK gw
  rw [List.getD_eq_getElem?_getD, List.getElem?_append_right (by omega), hl, Nat.sub_self]
  rfl
theorem plc_put {W' : List Int} {nx nx' : Nat} (hs : ∀ i, i < nx → gw W' i = gw W i) (ho : okHd (gw W' nx) = true) (hf : nx + 1 + mny (gw W' nx) ≤ nx') : ∀ (d at_ k k' : Nat), nx = at_ + d → nx ≤ at_ + k → nx' ≤ at_ + k' → (plc W nx k at_).1 = true → nx ∈ (plc W' nx' k' at_).2 := by
  intro d
  induction d using Nat.strongRecOn with
  | ind d ih =>
  intro at_ k k' h1 h2 h3 h4
  obtain ⟨k', rfl⟩ : ∃ j, k' = j + 1 := ⟨k' - 1, by omega⟩
  have hlt' : at_ < nx' := by omega
  by_cases hd : d = 0
  · have e : at_ = nx := by omega
    subst e
    simp only [plc]
    rw [if_pos hlt', if_pos (by simp [ho, hf])]
    simp
  · obtain ⟨k, rfl⟩ : ∃ j, k = j + 1 := ⟨k - 1, by omega⟩
    have hlt : at_ < nx := by omega
    simp only [plc] at h4
    rw [if_pos hlt] at h4
    split at h4
    · rename_i hc
      simp only [Bool.and_eq_true, decide_eq_true_eq] at hc
      have := ih (nx - (at_ + 1 + mny (gw W at_))) (by omega) (at_ + 1 + mny (gw W at_)) k k' (by omega) (by omega) (by omega) h4
      simp only [plc]
      rw [if_pos hlt', hs at_ hlt, if_pos (by simp [hc.1]; omega)]
      exact List.mem_cons_of_mem _ this
    · cases h4
/-- What is there, behind a block that was put. -/
theorem put_there (hok : allocOk W half base next fn tag K = true) : (0 ≤ tag ∧ tag ≤ 3000) ∧ K.length ≤ 20 ∧ Pre W half base next ∧ (K.length : Int) < base + half - next ∧ heapB W half base next = true ∧ heapB (putW W next.toNat (hdW fn tag K.length) K) half base (next + 1 + K.length) = true ∧
    blockR (putW W next.toNat (hdW fn tag K.length) K) half base (next + 1 + K.length) next = [.bool fn, .int tag, words K, .bool true] := by
  simp only [allocOk, Bool.and_eq_true] at hok
  obtain ⟨h1, h2, h3, h4, h5⟩ := hok
  have ht := okR_in h2
  have hk : K.length ≤ 20 := by have : (K.length : Int) ≤ 20 := by simpa [leI] using h3
                                omega
  have hlt : (K.length : Int) < base + half - next := by simpa [ltI] using h4
  obtain ⟨hb, hp⟩ := heapB_pre h1
  have hr := hp.rng
  refine ⟨ht, hk, hp, hlt, h1, h5, ?_⟩
  obtain ⟨g1, g2, g3, g4⟩ := hp
  simp only [Bool.and_eq_true] at hb
  generalize hnx : next.toNat = nx at *
  obtain rfl : (nx : Int) = next := by omega
  obtain ⟨d1, d2, d3, d4⟩ := hd_dec (fn := fn) (tag := tag) (len := K.length) ht hk
  have hat := gw_put_at (W := W) (K := K) (nx := nx) (hd := hdW fn tag K.length) (by omega)
  have e1 : ((nx : Int) + 1 + (K.length : Int)).toNat = nx + 1 + K.length := by omega
  have hin : inP (plcs (putW W nx (hdW fn tag K.length) K) base ((nx : Int) + 1 + K.length)) nx = true := by
    refine inP_iff.2 ⟨nx, ?_, rfl⟩
    unfold plcs
    rw [e1]
    have hb2 := hb.2
    unfold plcsB at hb2
    rw [Int.toNat_natCast] at hb2
    exact plc_put (W := W) (nx := nx) (fun i hi => gw_put_lt hi (by omega)) (by rw [hat]; exact d4) (by rw [hat, d3]; omega) (nx - base.toNat) base.toNat 3000 3000 (by omega) (by omega) (by omega) hb2
  unfold blockR
  rw [h5, hin, Int.toNat_natCast, hat, d1, d2, d3]
  have hK : ((putW W nx (hdW fn tag K.length) K).map PV.int).drop (nx + 1) = K.map PV.int ++ (W.drop (nx + 1 + K.length)).map PV.int := by
    have hl : ((W.take nx ++ [hdW fn tag K.length]).map PV.int).length = nx + 1 := by simp; omega
    have e : (putW W nx (hdW fn tag K.length) K).map PV.int = (W.take nx ++ [hdW fn tag K.length]).map PV.int ++ (K.map PV.int ++ (W.drop (nx + 1 + K.length)).map PV.int) := by simp [putW, putK]
    rw [e, List.drop_left' hl]
  rw [hK, List.take_left' (by simp)]
  rfl
end
end Go.Proofs.Ytijgokehlicmnaa.GFnHeap
