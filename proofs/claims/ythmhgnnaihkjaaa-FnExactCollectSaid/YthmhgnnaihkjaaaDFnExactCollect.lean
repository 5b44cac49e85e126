/- What functions of the program and of the reference come to, for the law FnExactCollect. Each under the conditions that it names. -/
import Derived.Test.YthmhgnnaihkjaaaCFnExactCollect
namespace Go.Proofs.Ythmhgnnaihkjaaa.GFnExactCollect
open Go Go.Rsc Go.Proofs.Ythmhgnnaihkjaaa
set_option maxRecDepth 100000
set_option linter.unusedVariables false
set_option linter.unusedSimpArgs false
def outA (W : List Int) (b : Nat) (was : List Nat) (i : Nat) : List Int := List.replicate b 0 ++ (blkF W b was (was.take i) ++ rawF W (was.drop i))
def bfs (W : List Int) : Nat → Nat → List Nat → List Nat
  | 0, _, was => was
  | d + 1, i, was => if i < was.length then bfs W d (i + 1) (addAll was (kids W (gp was i))) else was
theorem outA_len (W : List Int) (b : Nat) (was : List Nat) (i : Nat) : (outA W b was i).length = b + sumB W was := by
  have := sum_take_drop W was i
  simp [outA, blkF_len, rawF_len]
  omega
theorem take_gp {was : List Nat} {i : Nat} (h : i < was.length) : was.take (i + 1) = was.take i ++ [gp was i] := by
  rw [List.take_add_one, List.getElem?_eq_getElem h]
  simp [gp, List.getD_eq_getElem?_getD, h]
section
variable {W : List Int} {half base next : Int} {P : List Nat}
theorem outerLoop (h : SOk W half base next P) {n b : Nat} (hb : (b : Int) + half ≤ n) (hn2 : n ≤ 6000) (out z : PV) : ∀ (d i : Nat) (was : List Nat), P.length ≤ i + d → Way P was → i ≤ was.length → (∀ q, q ∈ was.take i → ∀ x, x ∈ kids W q → inW was x) →
    (Way P (bfs W d i was) ∧ (∀ q, q ∈ bfs W d i was → ∀ x, x ∈ kids W q → inW (bfs W d i was) x) ∧ (∀ x, inW was x → inW (bfs W d i was) x ∧ mv W b (bfs W d i was) x = mv W b was x)) ∧
    Evt fun N => ∀ m, d + 1 ≤ m → loopEv (L31_2 (ev Try.prog sg N) N) m [.int (b + sumB W (was.take i) : Nat), out, stV (heapV W half base next) (outA W b was i) n half b was (nowL W b was), z] =
      some (.x 2, [out, stV (heapV W half base next) (List.replicate b 0 ++ blkF W b (bfs W d i was) (bfs W d i was)) n half b (bfs W d i was) (nowL W b (bfs W d i was)), z]) := by
  have hs := h.sum
  have fin : ∀ (i : Nat) (was : List Nat), i = was.length → ∀ N, L31_2 (ev Try.prog sg N) N [.int (b + sumB W (was.take i) : Nat), out, stV (heapV W half base next) (outA W b was i) n half b was (nowL W b was), z] =
      some (.x 2, [out, stV (heapV W half base next) (List.replicate b 0 ++ blkF W b was was) n half b was (nowL W b was), z]) := by
    intro i was hi N
    subst hi
    have e : outA W b was was.length = List.replicate b 0 ++ blkF W b was was := by simp [outA, rawF]
    have el := outA_len W b was was.length
    rw [e] at el ⊢
    rw [List.take_length]
    simp only [stV, toV, el]
    generalize List.replicate b 0 ++ blkF W b was was ++ List.replicate (n - (b + sumB W was)) (0 : Int) = T
    simp (disch := omega) [L31_2, ltF]
  intro d
  induction d with
  | zero =>
    intro i was h1 hw hi hc
    have hl := len_sub hw.nodup hw.sub
    have e : i = was.length := by omega
    refine ⟨⟨hw, fun q hq => hc q (by rw [e, List.take_length]; exact hq), fun x hx => ⟨hx, rfl⟩⟩, Evt.all fun N m hm => ?_⟩
    obtain ⟨m, rfl⟩ : ∃ m', m = m' + 1 := ⟨m - 1, by omega⟩
    simp only [loopEv, fin i was e N, thenN_x, passE_eq, bfs]
  | succ d ih =>
    intro i was h1 hw hi hc
    by_cases hlt : i < was.length
    rotate_left
    · have e : i = was.length := by omega
      have eb : bfs W (d + 1) i was = was := by simp [bfs, hlt]
      rw [eb]
      refine ⟨⟨hw, fun q hq => hc q (by rw [e, List.take_length]; exact hq), fun x hx => ⟨hx, rfl⟩⟩, Evt.all fun N m hm => ?_⟩
      obtain ⟨m, rfl⟩ : ∃ m', m = m' + 1 := ⟨m - 1, by omega⟩
      simp only [loopEv, fin i was e N, thenN_x, passE_eq]
    have eb : bfs W (d + 1) i was = bfs W d (i + 1) (addAll was (kids W (gp was i))) := by simp [bfs, hlt]
    rw [eb]
    generalize hp : gp was i = p at *
    have hpP : p ∈ P := hw.sub p (hp ▸ gp_mem hlt)
    have hw2 : Way P (addAll was (kids W p)) := addAll_way hw (h.kid p hpP)
    obtain ⟨nl, hnl⟩ := addAll_ext (kids W p) was
    have htk : (addAll was (kids W p)).take i = was.take i := by rw [hnl, List.take_append_of_le_length (by omega)]
    have hgp : gp (addAll was (kids W p)) i = p := by
      rw [hnl, ← hp]
      simp [gp, List.getD_eq_getElem?_getD, List.getElem?_append_left hlt]
    have hlt2 : i < (addAll was (kids W p)).length := by rw [hnl]; simp; omega
    have htk1 : (addAll was (kids W p)).take (i + 1) = was.take i ++ [p] := by rw [take_gp hlt2, htk, hgp]
    have ih := ih (i + 1) (addAll was (kids W p)) (by omega) hw2 (by omega) (fun q hq x hx => by
      rw [htk1] at hq
      rcases List.mem_append.1 hq with hq | hq
      · exact inW_all (hc q hq x hx)
      · rw [List.mem_singleton.1 hq] at hx
        exact addAll_in hx)
    obtain ⟨⟨p1, p2, p3⟩, ih⟩ := ih
    refine ⟨⟨p1, p2, fun x hx => ?_⟩, ?_⟩
    · obtain ⟨q1, q2⟩ := p3 x (inW_all hx)
      exact ⟨q1, by rw [q2, mv_all hx]⟩
    have hin := innerLoop h hb hn2 i p hpP out z (kids W p) [] was (by simp) hw hlt hp hc (by simp)
    have e0 : scA W b was i p [] (kids W p) = outA W b was i := by
      unfold scA outA
      rw [drop_gp hlt, hp]
      simp [rawF, raw]
    have e1 : scA W b (addAll was (kids W p)) i p (kids W p) [] = outA W b (addAll was (kids W p)) (i + 1) := by
      unfold scA outA
      rw [htk1, htk]
      simp [blkF, blkM]
    rw [e0, e1] at hin
    have hr := ofS (gw W p)
    have hal := outA_len W b was i
    have hs1 := sum_sub (W := W) hw.nodup hw.sub
    have hst := sum_take_drop W was i
    rw [drop_gp hlt, hp] at hst
    simp only [sumB] at hst
    have hnth : nth ((outA W b was i ++ List.replicate (n - (outA W b was i).length) (0 : Int)).map PV.int) (b + sumB W (was.take i)) = .int (gw W p) := by
      have hXl : (List.replicate b (0 : Int) ++ blkF W b was (was.take i)).length = b + sumB W (was.take i) := by simp [blkF_len]
      have e2 : outA W b was i ++ List.replicate (n - (outA W b was i).length) (0 : Int) = (List.replicate b (0 : Int) ++ blkF W b was (was.take i)) ++ gw W p :: (kids W p ++ rawF W (was.drop (i + 1)) ++ List.replicate (n - (outA W b was i).length) (0 : Int)) := by
        rw [← e0]
        simp [scA]
      rw [e2, List.map_append, List.map_cons]
      have := nth_mid ((List.replicate b (0 : Int) ++ blkF W b was (was.take i)).map PV.int) ((kids W p ++ rawF W (was.drop (i + 1)) ++ List.replicate (n - (outA W b was i).length) (0 : Int)).map PV.int) (.int (gw W p))
      rwa [List.length_map, hXl] at this
    have hTl : ((outA W b was i ++ List.replicate (n - (outA W b was i).length) (0 : Int)).map PV.int).length = n := by rw [List.length_map, List.length_append, List.length_replicate]; omega
    have hml := mny_lt (gw W p)
    have hkl := kids_len W p
    have hat : IntKind.i64.wrap (IntKind.i64.wrap (((b + sumB W (was.take i) : Nat) : Int) + 1) + (mny (gw W p) : Int)) = ((b + sumB W ((addAll was (kids W p)).take (i + 1)) : Nat) : Int) := by
      rw [htk1, sumB_append]
      simp only [sumB]
      rw [wrap64 (x := ((b + sumB W (was.take i) : Nat) : Int) + 1) (by omega) (by omega), wrap64 (by omega) (by omega)]
      omega
    refine hr.mp4 hin ih (Evt.ge 100) fun N q1 q2 q3 q4 m hm => ?_
    obtain ⟨m, rfl⟩ : ∃ m', m = m' + 1 := ⟨m - 1, by omega⟩
    have q2 := q2 N (by omega)
    have hB : L31_2 (ev Try.prog sg N) N [.int (b + sumB W (was.take i) : Nat), out, stV (heapV W half base next) (outA W b was i) n half b was (nowL W b was), z] =
        some (.n, [.int (b + sumB W ((addAll was (kids W p)).take (i + 1)) : Nat), out, stV (heapV W half base next) (outA W b (addAll was (kids W p)) (i + 1)) n half b (addAll was (kids W p)) (nowL W b (addAll was (kids W p))), z]) := by
      rw [← hat]
      simp only [stV, toV, heapV, words] at q2 ⊢
      generalize (outA W b was i ++ List.replicate (n - (outA W b was i).length) (0 : Int)).map PV.int = T at q2 hnth hTl
      generalize (outA W b (addAll was (kids W p)) (i + 1) ++ List.replicate (n - (outA W b (addAll was (kids W p)) (i + 1)).length) (0 : Int)).map PV.int = T' at q2
      rw [hal] at q2 ⊢
      generalize (outA W b (addAll was (kids W p)) (i + 1)).length = nx' at q2
      generalize hat0 : b + sumB W (was.take i) = at_ at *
      simp only [List.length_nil, Nat.zero_add, show ((1 : Nat) : Int) = 1 from rfl] at q2
      simp (disch := omega) only [L31_2, nth_0, nth_1, nth_2, nth_3, nth_4, fld_agg, toInt_int, toList_list, ltT, geT, hTl, iff_true', Int.toNat_natCast, hnth, q1, Option.bind_some, q2, thenE_some, passB_same, thenN_n]
    simp only [loopEv, hB, thenN_n]
    exact q3 m (by omega)
/-- The move, of what is right. -/
theorem collectS (h : SOk W half base next P) {R : List Int} (hR : ∀ x, x ∈ R → there P x = true) (hRl : R.length ≤ 1048576) : ∃ fin : List Nat, fin = bfs W P.length 0 (addAll [] R) ∧ Way P fin ∧ (∀ q, q ∈ fin → ∀ x, x ∈ kids W q → inW fin x) ∧ (∀ x, x ∈ R → inW fin x) ∧
    Rn 31 [heapV W half base next, words R] [toV (List.replicate (half - base).toNat 0 ++ blkF W (half - base).toNat fin fin) (2 * half).toNat half (half - base), words (R.map (mv W (half - base).toNat fin))] := by
  obtain ⟨g1, g2, g3, g4⟩ := h.pre
  have hbb : (((half - base).toNat : Nat) : Int) = half - base := by omega
  have hroots := rootsLoop h (n := (2 * half).toNat) (b := (half - base).toNat) (by omega) (by omega) hR hRl (.agg [.list [], .int 0, .int 0, .int 0])
  have hway : Way P (addAll [] R) := addAll_way ⟨List.nodup_nil, by simp⟩ hR
  obtain ⟨⟨p1, p2, p3⟩, hout⟩ := outerLoop h (n := (2 * half).toNat) (b := (half - base).toNat) (by omega) (by omega) (words (R.map (mv W (half - base).toNat (addAll [] R)))) (.agg [.list [], .int 0, .int 0, .int 0]) P.length 0 (addAll [] R) (by omega) hway (by omega) (by simp)
  refine ⟨bfs W P.length 0 (addAll [] R), rfl, p1, p2, fun x hx => (p3 x (addAll_in hx)).1, ?_⟩
  have eR : R.map (mv W (half - base).toNat (bfs W P.length 0 (addAll [] R))) = R.map (mv W (half - base).toNat (addAll [] R)) := List.map_congr_left fun x hx => (p3 x (addAll_in hx)).2
  rw [eR]
  have e0 : outA W (half - base).toNat (addAll [] R) 0 = List.replicate (half - base).toNat 0 ++ rawF W (addAll [] R) := by simp [outA, blkF]
  rw [e0, List.take_zero] at hout
  simp only [sumB, Nat.add_zero] at hout
  have hpl := h.plen
  refine Is.of e31 (hroots.mp3 hout (Evt.ge 4000) fun N q1 q2 q3 => ?_)
  have q2 := q2 N (by omega)
  rw [hbb] at q1 q2
  generalize bfs W P.length 0 (addAll [] R) = fin at *
  have hf : ((stV (heapV W half base next) (List.replicate (half - base).toNat 0 ++ rawF W (addAll [] R)) (2 * half).toNat half (half - base) (addAll [] R) (nowL W (half - base).toNat (addAll [] R))).fld 1).fld 2 = .int (half - base) := rfl
  generalize stV (heapV W half base next) (List.replicate (half - base).toNat 0 ++ rawF W (addAll [] R)) (2 * half).toNat half (half - base) (addAll [] R) (nowL W (half - base).toNat (addAll [] R)) = st1 at q1 q2 hf
  have w1 : IntKind.i64.wrap (2 * half) = 2 * half := wrap64 (by omega) (by omega)
  have w2 : IntKind.i64.wrap (half - base) = half - base := wrap64 (by omega) (by omega)
  have eI : stV (heapV W half base next) (List.replicate (half - base).toNat 0) (2 * half).toNat half (half - base) [] [] = .agg [heapV W half base next, .agg [.list (List.replicate (2 * half).toNat (.int 0)), .int half, .int (half - base), .int (half - base)], .list [], .list []] := by
    simp only [stV, toV, heapV, words, List.length_replicate, hbb, List.map_append, List.map_replicate, List.map_nil]
    rw [List.replicate_append_replicate, show (half - base).toNat + ((2 * half).toNat - (half - base).toNat) = (2 * half).toNat by omega]
    rfl
  rw [eI] at q1
  simp (disch := omega) only [F31, nth_0, nth_1, nth_2, fld_agg, toInt_int, toList_list, w1, w2, geT, leT, iff_true', q1, thenE_some, passB_same, thenN_n]
  rw [hf, q2]
  simp
end
theorem copyI {l : List PV} (hl : l.length ≤ 1048576) : Rn 34 [.list l] [.list l] :=
  Is.of e34 (Evt.all fun n => by simp (disch := omega) [F34, leNT])
end Go.Proofs.Ythmhgnnaihkjaaa.GFnExactCollect
