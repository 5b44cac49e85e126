/- What functions of the program and of the reference come to, for the law FnHeap. Each under the conditions that it names. -/
import Derived.Test.YtijgokehlicmnaaIFnHeap
namespace Go.Proofs.Ytijgokehlicmnaa.GFnHeap
open Go Go.Rsc Go.Proofs.Ytijgokehlicmnaa
set_option maxRecDepth 100000
set_option linter.unusedVariables false
set_option linter.unusedSimpArgs false
set_option maxHeartbeats 4000000 in
theorem law {bs : List PV} (hb : Bs bs) : Rn 5 [.list bs] [.bool true] := by
  have hbl := hb.len
  have rb : Rn 28 [.list bs] [.bool false] := Is.of e28 (Evt.all fun n => by simp (disch := omega) [F28, gtF])
  obtain ⟨W, half, base, next, fn, tag, K, hW, hK, hKl, r1⟩ := drawAlloc hb
  obtain ⟨W2, half2, base2, next2, p2, hW2, r13⟩ := drawBlock hb
  obtain ⟨W3, half3, base3, next3, hW3, r16⟩ := drawRoom hb
  obtain ⟨x, r17⟩ := drawNew hb
  have l1 := hW.l2
  have l2 := hW2.l2
  have l3 := hW3.l2
  have r2 := allocI (W := W) (K := K) (half := half) (base := base) (next := next) (fn := fn) (tag := tag) (by omega) (by omega)
  have r3 := allocS (W := W) (K := K) (half := half) (base := base) (next := next) (fn := fn) (tag := tag) (by omega) hW.big hK (by omega)
  have r8 := heapI (W := W) (half := half) (base := base) (next := next) (by omega)
  have r10 := heapS (W := W) (half := half) (base := base) (next := next) (by omega) fun w hw => (hW.big w hw).2
  have r14 := blockI (W := W2) (half := half2) (base := base2) (next := next2) (p := p2) (by omega) hW2.big
  have r15 := blockS (W := W2) (half := half2) (base := base2) (next := next2) (p := p2) (by omega) hW2.big
  have r25 := roomI (W := W3) (half := half3) (base := base3) (next := next3) (by omega)
  have r27 := roomS (W := W3) (half := half3) (base := base3) (next := next3) (by omega) hW3.big
  have r18 := newI x
  have r19 := newS x
  -- what a block at a drawn place tells
  obtain ⟨f2, t2, ks2, th2, e2, rs2⟩ : ∃ f2 t2 ks2 th2, blockR W2 half2 base2 next2 p2 = [.bool f2, .int t2, ks2, .bool th2] ∧ Rn 42 [ks2, ks2] [.bool true] := by
    unfold blockR
    split
    · have hs := sameI ((W2.drop (p2.toNat + 1)).take (mny (gw W2 p2.toNat))) (by simp; omega)
      refine ⟨_, _, _, _, rfl, ?_⟩
      rw [← List.map_drop, ← List.map_take]
      exact hs
    · exact ⟨_, _, _, _, rfl, sameI [] (by simp)⟩
  rw [e2] at r14 r15
  -- a new heap
  obtain ⟨hn, mk, en, rn⟩ : ∃ hn mk, (if okR x 1 3000 then [heapV (List.replicate (2 * x).toNat 0) x 0 0, .bool true] else [heapV [] 0 0 0, .bool false]) = [hn, .bool mk] ∧ (mk = true → Rn 33 [hn] [.bool true]) := by
    split
    · rename_i hx
      have := okR_in hx
      refine ⟨_, _, rfl, fun _ => ?_⟩
      have := heapI (W := List.replicate (2 * x).toNat 0) (half := x) (base := 0) (next := 0) (by simp; omega)
      rwa [new_ok hx] at this
    · exact ⟨_, _, rfl, fun h => by cases h⟩
  rw [en] at r18 r19
  have rn' : ∃ b : Bool, (mk = true → b = true) ∧ (mk = true → Rn 33 [hn] [.bool b]) := ⟨true, fun _ => rfl, rn⟩
  generalize (if heapB W3 half3 base3 next3 then IntKind.i64.wrap (IntKind.i64.wrap (base3 + half3) - next3) else 0) = rm at r25 r27
  generalize heapV W2 half2 base2 next2 = h2 at *
  generalize heapV W3 half3 base3 next3 = h3 at *
  cases hok : allocOk W half base next fn tag K with
  | false =>
    have ea : allocR W half base next fn tag K = [heapV W half base next, .int 0, .bool false] := by unfold allocR; rw [hok]; rfl
    rw [ea] at r2 r3
    have r5 := sameH (W := W) (half := half) (base := base) (next := next) (by omega)
    generalize heapV W half base next = h0 at *
    generalize heapB W half base next = hb0 at r8 r10
    cases mk with
    | false =>
      refine Is.of e5 (Evt.mp4 (rb.and r1) ((r2.and r3).and (r8.and r10)) ((r5.and r13).and ((r14.and r15).and (r16.and r17))) ((rs2.and (r25.and r27)).and (r18.and r19)) fun n ⟨qb, q1⟩ ⟨⟨q2, q3⟩, q8, q10⟩ ⟨⟨q5, q13⟩, ⟨q14, q15⟩, q16, q17⟩ ⟨⟨qs, q25, q27⟩, q18, q19⟩ => ?_)
      simp (disch := omega) [F5, qb, q1, q2, q3, q5, q8, q10, q13, q14, q15, q16, q17, q18, q19, qs, q25, q27, neF, isB_unit]
    | true =>
      have rn := rn rfl
      refine Is.of e5 (Evt.mp4 (rb.and (r1.and rn)) ((r2.and r3).and (r8.and r10)) ((r5.and r13).and ((r14.and r15).and (r16.and r17))) ((rs2.and (r25.and r27)).and (r18.and r19)) fun n ⟨qb, q1, qn⟩ ⟨⟨q2, q3⟩, q8, q10⟩ ⟨⟨q5, q13⟩, ⟨q14, q15⟩, q16, q17⟩ ⟨⟨qs, q25, q27⟩, q18, q19⟩ => ?_)
      simp (disch := omega) [F5, qb, q1, qn, q2, q3, q5, q8, q10, q13, q14, q15, q16, q17, q18, q19, qs, q25, q27, neF, isB_unit]
  | true =>
    obtain ⟨ht, hk, hp, hlt, hh1, hh2, hbl⟩ := put_there hok
    have hr := hp.rng
    obtain ⟨g1, g2, g3, g4⟩ := hp
    have ea : allocR W half base next fn tag K = [heapV (putW W next.toNat (hdW fn tag K.length) K) half base (next + 1 + K.length), .int next, .bool true] := by unfold allocR; rw [hok]; rfl
    rw [ea] at r2 r3
    rw [hh1] at r8 r10
    have hpl : (putW W next.toNat (hdW fn tag K.length) K).length = W.length := by
      unfold putW
      exact putK_len (by omega) (Nat.le_refl _)
    have hdr := hdW_rng (K := K) (fn := fn) ht hk
    have hrng := putW_rng (nx := next.toNat) (hd := hdW fn tag K.length) hW.big hK (by omega)
    have r5 := sameH (W := putW W next.toNat (hdW fn tag K.length) K) (half := half) (base := base) (next := next + 1 + K.length) (by omega)
    have r36 := blockI (W := putW W next.toNat (hdW fn tag K.length) K) (half := half) (base := base) (next := next + 1 + K.length) (p := next) (by omega) hrng
    rw [hbl] at r36
    have r39 := sameI K (by omega)
    have r42 := roomI (W := putW W next.toNat (hdW fn tag K.length) K) (half := half) (base := base) (next := next + 1 + K.length) (by omega)
    rw [hh2] at r42
    simp only [if_true] at r42
    have r44 := roomI (W := W) (half := half) (base := base) (next := next) (by omega)
    rw [hh1] at r44
    simp only [if_true] at r44
    rw [wrap64 (x := base + half) (by omega) (by omega), wrap64 (by omega) (by omega)] at r42 r44
    have r49 := heapI (W := putW W next.toNat (hdW fn tag K.length) K) (half := half) (base := base) (next := next + 1 + K.length) (by omega)
    rw [hh2] at r49
    have hwl := wordsLen W
    have hwl2 := wordsLen (putW W next.toNat (hdW fn tag K.length) K)
    have hloop : Evt fun n => loopEv (L5_0 (ev Try.prog sg n) n) n [.int base, heapV W half base next, heapV (putW W next.toNat (hdW fn tag K.length) K) half base (next + 1 + K.length)] = some (.x 0, [heapV (putW W next.toNat (hdW fn tag K.length) K) half base (next + 1 + K.length)]) := by
      have h1 := loop_run (body := fun n => L5_0 (ev Try.prog sg n) n) (fun i => [.int (base + (i : Int)), heapV W half base next, heapV (putW W next.toNat (hdW fn tag K.length) K) half base (next + 1 + K.length)]) (next - base).toNat (e := .x 0) (res := [heapV (putW W next.toNat (hdW fn tag K.length) K) half base (next + 1 + K.length)]) (fun i hi => Evt.all fun n => ?_) (Evt.all fun n => ?_) (by simp)
      · simpa using h1
      · have hn1 := nth_gw (W := W) (i := (base + (i : Int)).toNat) (by omega)
        have hn2 := nth_gw (W := putW W next.toNat (hdW fn tag K.length) K) (i := (base + (i : Int)).toNat) (by omega)
        rw [gw_put_lt (by omega) (by omega)] at hn2
        generalize putW W next.toNat (hdW fn tag K.length) K = W' at *
        simp (disch := omega) [L5_0, ltT, geT, hwl, hwl2, hn1, hn2, neF, wrap64]
        omega
      · generalize putW W next.toNat (hdW fn tag K.length) K = W' at *
        simp (disch := omega) [L5_0, ltF]
    have hkl := wordsLen K
    have w1 : IntKind.i64.wrap (IntKind.i64.wrap (base + half - next - 1) - (K.length : Int)) = base + half - (next + 1 + K.length) := by rw [wrap64 (x := base + half - next - 1) (by omega) (by omega), wrap64 (by omega) (by omega)]; omega
    generalize hA : heapV (putW W next.toNat (hdW fn tag K.length) K) half base (next + 1 + K.length) = ha at *
    have f2' : (heapV W half base next).fld 2 = .int base := rfl
    generalize heapV W half base next = h0 at *
    have hws : (words K).toList.length = K.length := hkl
    generalize words K = wk at *
    cases mk with
    | false =>
      refine Is.of e5 (Evt.mp4 ((rb.and r1).and (hloop.and r49)) (((r2.and r3).and (r8.and r10)).and ((r36.and r39).and (r42.and r44))) ((r5.and r13).and ((r14.and r15).and (r16.and r17))) ((rs2.and (r25.and r27)).and (r18.and r19)) fun n ⟨⟨qb, q1⟩, ql, q49⟩ ⟨⟨⟨q2, q3⟩, q8, q10⟩, ⟨q36, q39⟩, q42, q44⟩ ⟨⟨q5, q13⟩, ⟨q14, q15⟩, q16, q17⟩ ⟨⟨qs, q25, q27⟩, q18, q19⟩ => ?_)
      simp (disch := omega) [F5, qb, q1, q2, q3, q5, q8, q10, q13, q14, q15, q16, q17, q18, q19, qs, q25, q27, neF, isB_unit, q36, q39, q42, q44, hws, w1, f2', ql, q49]
    | true =>
      have rn := rn rfl
      refine Is.of e5 (Evt.mp4 ((rb.and (r1.and rn)).and (hloop.and r49)) (((r2.and r3).and (r8.and r10)).and ((r36.and r39).and (r42.and r44))) ((r5.and r13).and ((r14.and r15).and (r16.and r17))) ((rs2.and (r25.and r27)).and (r18.and r19)) fun n ⟨⟨qb, q1, qn⟩, ql, q49⟩ ⟨⟨⟨q2, q3⟩, q8, q10⟩, ⟨q36, q39⟩, q42, q44⟩ ⟨⟨q5, q13⟩, ⟨q14, q15⟩, q16, q17⟩ ⟨⟨qs, q25, q27⟩, q18, q19⟩ => ?_)
      simp (disch := omega) [F5, qb, q1, qn, q2, q3, q5, q8, q10, q13, q14, q15, q16, q17, q18, q19, qs, q25, q27, neF, isB_unit, q36, q39, q42, q44, hws, w1, f2', ql, q49]
theorem pure_law (ps : List PV) (hl : ps.length = 1) (hwf : ∀ (j : Nat) t p, [44][j]? = some t → ps[j]? = some p → WfT Try.prog t p) : ∃ n, ev Try.prog sg n 5 ps = some [.bool true] := by
  obtain ⟨p, rfl⟩ := List.length_eq_one_iff.1 hl
  obtain ⟨bs, rfl, hbl, hbe⟩ := wf_slice (e := 5) (by kernel_rfl) (hwf 0 44 p rfl rfl)
  by_cases hbig : bs.length ≤ 1048576
  · refine (law ⟨fun q hq => ?_, hbig⟩).get
    obtain ⟨x, e, _⟩ := wf_int (k := .u8) (by kernel_rfl) (hbe q hq)
    exact ⟨x, e⟩
  · have rb : Rn 28 [.list bs] [.bool true] := Is.of e28 (Evt.all fun n => by simp (disch := omega) [F28, gtT])
    have : Rn 5 [.list bs] [.bool true] := Is.of e5 (rb.mp fun n q => by simp [F5, q])
    exact this.get
end Go.Proofs.Ytijgokehlicmnaa.GFnHeap
