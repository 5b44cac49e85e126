/- What functions of the program and of the reference come to, for the law FnMoved. Each under the conditions that it names. -/
import Derived.Test.YthmhgnnaihkjaaaGreatDoorCFnMoved
namespace Go.Proofs.YthmhgnnaihkjaaaGreatDoor.GFnMoved
open Go Go.Rsc Go.Proofs.YthmhgnnaihkjaaaGreatDoor
set_option maxRecDepth 100000
set_option linter.unusedVariables false
set_option linter.unusedSimpArgs false
def outA (W : List Int) (b : Nat) (was : List Nat) (i : Nat) : List Int := List.replicate b 0 ++ (blkF W b was (was.take i) ++ rawF W (was.drop i))
def bfs (W : List Int) : Nat → Nat → List Nat → List Nat
  | 0, _, was => was
  | d + 1, i, was => if i < was.length then bfs W d (i + 1) (addAll was (kids W (gp was i))) else was
theorem outA_len (W : List Int) (b : Nat) (was : List Nat) (i : Nat) : (outA W b was i).length = b + sumB W was := by
  have := sum_take_drop W was i
  simp [outA, blkF_len, rawF_len]
  omega
theorem take_gp {was : List Nat} {i : Nat} (h : i < was.length) : was.take (i + 1) = was.take i ++ [gp was i] := by
  rw [List.take_add_one, List.getElem?_eq_getElem h]
  simp [gp, List.getD_eq_getElem?_getD, h]
section
variable {W : List Int} {half base next : Int} {P : List Nat}
theorem outerLoop (h : SOk W half base next P) {n b : Nat} (hb : (b : Int) + half ≤ n) (hn2 : n ≤ 6000) (out z : PV) : ∀ (d i : Nat) (was : List Nat), P.length ≤ i + d → Way P was → i ≤ was.length → (∀ q, q ∈ was.take i → ∀ x, x ∈ kids W q → inW was x) →
    (Way P (bfs W d i was) ∧ (∀ q, q ∈ bfs W d i was → ∀ x, x ∈ kids W q → inW (bfs W d i was) x) ∧ (∀ x, inW was x → inW (bfs W d i was) x ∧ mv W b (bfs W d i was) x = mv W b was x)) ∧
    Evt fun N => ∀ m, d + 1 ≤ m → loopEv (L33_2 (ev Tryz.prog sg N) N) m [.int (b + sumB W (was.take i) : Nat), out, stV (heapV W half base next) (outA W b was i) n half b was (nowL W b was), z] =
      some (.x 2, [out, stV (heapV W half base next) (List.replicate b 0 ++ blkF W b (bfs W d i was) (bfs W d i was)) n half b (bfs W d i was) (nowL W b (bfs W d i was)), z]) := by
  have hs := h.sum
  have fin : ∀ (i : Nat) (was : List Nat), i = was.length → ∀ N, L33_2 (ev Tryz.prog sg N) N [.int (b + sumB W (was.take i) : Nat), out, stV (heapV W half base next) (outA W b was i) n half b was (nowL W b was), z] =
      some (.x 2, [out, stV (heapV W half base next) (List.replicate b 0 ++ blkF W b was was) n half b was (nowL W b was), z]) := by
    intro i was hi N
    subst hi
    have e : outA W b was was.length = List.replicate b 0 ++ blkF W b was was := by simp [outA, rawF]
    have el := outA_len W b was was.length
    rw [e] at el ⊢
    rw [List.take_length]
    simp only [stV, toV, el]
    generalize List.replicate b 0 ++ blkF W b was was ++ List.replicate (n - (b + sumB W was)) (0 : Int) = T
    simp (disch := omega) [L33_2, ltF]
  intro d
  induction d with
  | zero =>
    intro i was h1 hw hi hc
    have hl := len_sub hw.nodup hw.sub
    have e : i = was.length := by omega
    refine ⟨⟨hw, fun q hq => hc q (by rw [e, List.take_length]; exact hq), fun x hx => ⟨hx, rfl⟩⟩, Evt.all fun N m hm => ?_⟩
    obtain ⟨m, rfl⟩ : ∃ m', m = m' + 1 := ⟨m - 1, by omega⟩
    simp only [loopEv, fin i was e N, thenN_x, passE_eq, bfs]
  | succ d ih =>
    intro i was h1 hw hi hc
    by_cases hlt : i < was.length
    rotate_left
    · have e : i = was.length := by omega
      have eb : bfs W (d + 1) i was = was := by simp [bfs, hlt]
      rw [eb]
      refine ⟨⟨hw, fun q hq => hc q (by rw [e, List.take_length]; exact hq), fun x hx => ⟨hx, rfl⟩⟩, Evt.all fun N m hm => ?_⟩
      obtain ⟨m, rfl⟩ : ∃ m', m = m' + 1 := ⟨m - 1, by omega⟩
      simp only [loopEv, fin i was e N, thenN_x, passE_eq]
    have eb : bfs W (d + 1) i was = bfs W d (i + 1) (addAll was (kids W (gp was i))) := by simp [bfs, hlt]
    rw [eb]
    generalize hp : gp was i = p at *
    have hpP : p ∈ P := hw.sub p (hp ▸ gp_mem hlt)
    have hw2 : Way P (addAll was (kids W p)) := addAll_way hw (h.kid p hpP)
    obtain ⟨nl, hnl⟩ := addAll_ext (kids W p) was
    have htk : (addAll was (kids W p)).take i = was.take i := by rw [hnl, List.take_append_of_le_length (by omega)]
    have hgp : gp (addAll was (kids W p)) i = p := by
      rw [hnl, ← hp]
      simp [gp, List.getD_eq_getElem?_getD, List.getElem?_append_left hlt]
    have hlt2 : i < (addAll was (kids W p)).length := by rw [hnl]; simp; omega
    have htk1 : (addAll was (kids W p)).take (i + 1) = was.take i ++ [p] := by rw [take_gp hlt2, htk, hgp]
    have ih := ih (i + 1) (addAll was (kids W p)) (by omega) hw2 (by omega) (fun q hq x hx => by
      rw [htk1] at hq
      rcases List.mem_append.1 hq with hq | hq
      · exact inW_all (hc q hq x hx)
      · rw [List.mem_singleton.1 hq] at hx
        exact addAll_in hx)
    obtain ⟨⟨p1, p2, p3⟩, ih⟩ := ih
    refine ⟨⟨p1, p2, fun x hx => ?_⟩, ?_⟩
    · obtain ⟨q1, q2⟩ := p3 x (inW_all hx)
      exact ⟨q1, by rw [q2, mv_all hx]⟩
    have hin := innerLoop h hb hn2 i p hpP out z (kids W p) [] was (by simp) hw hlt hp hc (by simp)
    have e0 : scA W b was i p [] (kids W p) = outA W b was i := by
      unfold scA outA
      rw [drop_gp hlt, hp]
      simp [rawF, raw]
    have e1 : scA W b (addAll was (kids W p)) i p (kids W p) [] = outA W b (addAll was (kids W p)) (i + 1) := by
      unfold scA outA
      rw [htk1, htk]
      simp [blkF, blkM]
    rw [e0, e1] at hin
    have hr := ofS (gw W p)
    have hal := outA_len W b was i
    have hs1 := sum_sub (W := W) hw.nodup hw.sub
    have hst := sum_take_drop W was i
    rw [drop_gp hlt, hp] at hst
    simp only [sumB] at hst
    have hnth : nth ((outA W b was i ++ List.replicate (n - (outA W b was i).length) (0 : Int)).map PV.int) (b + sumB W (was.take i)) = .int (gw W p) := by
      have hXl : (List.replicate b (0 : Int) ++ blkF W b was (was.take i)).length = b + sumB W (was.take i) := by simp [blkF_len]
      have e2 : outA W b was i ++ List.replicate (n - (outA W b was i).length) (0 : Int) = (List.replicate b (0 : Int) ++ blkF W b was (was.take i)) ++ gw W p :: (kids W p ++ rawF W (was.drop (i + 1)) ++ List.replicate (n - (outA W b was i).length) (0 : Int)) := by
        rw [← e0]
        simp [scA]
      rw [e2, List.map_append, List.map_cons]
      have := nth_mid ((List.replicate b (0 : Int) ++ blkF W b was (was.take i)).map PV.int) ((kids W p ++ rawF W (was.drop (i + 1)) ++ List.replicate (n - (outA W b was i).length) (0 : Int)).map PV.int) (.int (gw W p))
      rwa [List.length_map, hXl] at this
    have hTl : ((outA W b was i ++ List.replicate (n - (outA W b was i).length) (0 : Int)).map PV.int).length = n := by rw [List.length_map, List.length_append, List.length_replicate]; omega
    have hml := mny_lt (gw W p)
    have hkl := kids_len W p
    have hat : IntKind.i64.wrap (IntKind.i64.wrap (((b + sumB W (was.take i) : Nat) : Int) + 1) + (mny (gw W p) : Int)) = ((b + sumB W ((addAll was (kids W p)).take (i + 1)) : Nat) : Int) := by
      rw [htk1, sumB_append]
      simp only [sumB]
      rw [wrap64 (x := ((b + sumB W (was.take i) : Nat) : Int) + 1) (by omega) (by omega), wrap64 (by omega) (by omega)]
      omega
    refine hr.mp4 hin ih (Evt.ge 100) fun N q1 q2 q3 q4 m hm => ?_
    obtain ⟨m, rfl⟩ : ∃ m', m = m' + 1 := ⟨m - 1, by omega⟩
    have q2 := q2 N (by omega)
    have hB : L33_2 (ev Tryz.prog sg N) N [.int (b + sumB W (was.take i) : Nat), out, stV (heapV W half base next) (outA W b was i) n half b was (nowL W b was), z] =
        some (.n, [.int (b + sumB W ((addAll was (kids W p)).take (i + 1)) : Nat), out, stV (heapV W half base next) (outA W b (addAll was (kids W p)) (i + 1)) n half b (addAll was (kids W p)) (nowL W b (addAll was (kids W p))), z]) := by
      rw [← hat]
      simp only [stV, toV, heapV, words] at q2 ⊢
      generalize (outA W b was i ++ List.replicate (n - (outA W b was i).length) (0 : Int)).map PV.int = T at q2 hnth hTl
      generalize (outA W b (addAll was (kids W p)) (i + 1) ++ List.replicate (n - (outA W b (addAll was (kids W p)) (i + 1)).length) (0 : Int)).map PV.int = T' at q2
      rw [hal] at q2 ⊢
      generalize (outA W b (addAll was (kids W p)) (i + 1)).length = nx' at q2
      generalize hat0 : b + sumB W (was.take i) = at_ at *
      simp only [List.length_nil, Nat.zero_add, show ((1 : Nat) : Int) = 1 from rfl] at q2
      simp (disch := omega) only [L33_2, nth_0, nth_1, nth_2, nth_3, nth_4, fld_agg, toInt_int, toList_list, ltT, geT, hTl, iff_true', Int.toNat_natCast, hnth, q1, Option.bind_some, q2, thenE_some, passB_same, thenN_n]
    simp only [loopEv, hB, thenN_n]
    exact q3 m (by omega)
/-- The move, of what is right. -/
theorem collectS (h : SOk W half base next P) {R : List Int} (hR : ∀ x, x ∈ R → there P x = true) (hRl : R.length ≤ 1048576) : ∃ fin : List Nat, fin = bfs W P.length 0 (addAll [] R) ∧ Way P fin ∧ (∀ q, q ∈ fin → ∀ x, x ∈ kids W q → inW fin x) ∧ (∀ x, x ∈ R → inW fin x) ∧
    Rn 33 [heapV W half base next, words R] [toV (List.replicate (half - base).toNat 0 ++ blkF W (half - base).toNat fin fin) (2 * half).toNat half (half - base), words (R.map (mv W (half - base).toNat fin))] := by
  obtain ⟨g1, g2, g3, g4⟩ := h.pre
  have hbb : (((half - base).toNat : Nat) : Int) = half - base := by omega
  have hroots := rootsLoop h (n := (2 * half).toNat) (b := (half - base).toNat) (by omega) (by omega) hR hRl (.agg [.list [], .int 0, .int 0, .int 0])
  have hway : Way P (addAll [] R) := addAll_way ⟨List.nodup_nil, by simp⟩ hR
  obtain ⟨⟨p1, p2, p3⟩, hout⟩ := outerLoop h (n := (2 * half).toNat) (b := (half - base).toNat) (by omega) (by omega) (words (R.map (mv W (half - base).toNat (addAll [] R)))) (.agg [.list [], .int 0, .int 0, .int 0]) P.length 0 (addAll [] R) (by omega) hway (by omega) (by simp)
  refine ⟨bfs W P.length 0 (addAll [] R), rfl, p1, p2, fun x hx => (p3 x (addAll_in hx)).1, ?_⟩
  have eR : R.map (mv W (half - base).toNat (bfs W P.length 0 (addAll [] R))) = R.map (mv W (half - base).toNat (addAll [] R)) := List.map_congr_left fun x hx => (p3 x (addAll_in hx)).2
  rw [eR]
  have e0 : outA W (half - base).toNat (addAll [] R) 0 = List.replicate (half - base).toNat 0 ++ rawF W (addAll [] R) := by simp [outA, blkF]
  rw [e0, List.take_zero] at hout
  simp only [sumB, Nat.add_zero] at hout
  have hpl := h.plen
  refine Is.of e33 (hroots.mp3 hout (Evt.ge 4000) fun N q1 q2 q3 => ?_)
  have q2 := q2 N (by omega)
  rw [hbb] at q1 q2
  generalize bfs W P.length 0 (addAll [] R) = fin at *
  have hf : ((stV (heapV W half base next) (List.replicate (half - base).toNat 0 ++ rawF W (addAll [] R)) (2 * half).toNat half (half - base) (addAll [] R) (nowL W (half - base).toNat (addAll [] R))).fld 1).fld 2 = .int (half - base) := rfl
  generalize stV (heapV W half base next) (List.replicate (half - base).toNat 0 ++ rawF W (addAll [] R)) (2 * half).toNat half (half - base) (addAll [] R) (nowL W (half - base).toNat (addAll [] R)) = st1 at q1 q2 hf
  have w1 : IntKind.i64.wrap (2 * half) = 2 * half := wrap64 (by omega) (by omega)
  have w2 : IntKind.i64.wrap (half - base) = half - base := wrap64 (by omega) (by omega)
  have eI : stV (heapV W half base next) (List.replicate (half - base).toNat 0) (2 * half).toNat half (half - base) [] [] = .agg [heapV W half base next, .agg [.list (List.replicate (2 * half).toNat (.int 0)), .int half, .int (half - base), .int (half - base)], .list [], .list []] := by
    simp only [stV, toV, heapV, words, List.length_replicate, hbb, List.map_append, List.map_replicate, List.map_nil]
    rw [List.replicate_append_replicate, show (half - base).toNat + ((2 * half).toNat - (half - base).toNat) = (2 * half).toNat by omega]
    rfl
  rw [eI] at q1
  simp (disch := omega) only [F33, nth_0, nth_1, nth_2, fld_agg, toInt_int, toList_list, w1, w2, geT, leT, iff_true', q1, thenE_some, passB_same, thenN_n]
  rw [hf, q2]
  simp
end
theorem copyI {l : List PV} (hl : l.length ≤ 1048576) : Rn 24 [.list l] [.list l] :=
  Is.of e24 (Evt.all fun n => by simp (disch := omega) [F24, leNT])
/-! ### Blocks that are come to, as the program finds them -/
section
variable {W R : List Int} {half base next : Int}
theorem rightS (hW : W.length ≤ 1048576) (hW2 : ∀ w, w ∈ W → -9223372036854775808 ≤ w ∧ w < 9223372036854775808) (hR : R.length ≤ 1048576) : Rn 31 [heapV W half base next, words R] [.bool (heapB W half base next && allP (plcs W base next) R)] := by
  have hl := wordsLen R
  have r1 := heapS (half := half) (base := base) (next := next) hW fun w hw => (hW2 w hw).2
  cases c1 : heapB W half base next with
  | false =>
    rw [c1] at r1
    exact Is.of e31 (r1.mp fun n q => by simp [F31, q])
  | true =>
  rw [c1] at r1
  have hp := (heapB_pre c1).2
  have r2 := placesS hp fun w hw => (hW2 w hw).2
  have hP := plcs_len W base next
  generalize plcs W base next = P at *
  have h1 := all_loop (body := fun n => L31_0 (ev Tryz.prog sg n) n) (pay := fun i => [.int i, nats P, words R]) (c := fun i => there P (gw R i)) (e1 := .x 0) (r1 := []) (e2 := .r) (r2 := [.bool false]) R.length (by simp) (by simp) (fun i hi hc => ?_) (fun i hi hc => ?_) (Evt.all fun n => ?_)
  · rw [range_gw] at h1
    refine Is.of e31 (r1.mp3 r2 h1 fun n q1 q2 q3 => ?_)
    unfold allP
    simp only [show ((0 : Nat) : Int) = 0 from rfl] at q3
    cases hc : R.all (there P) <;> rw [hc] at q3 <;> simp at q3 <;> simp [F31, q1, q2, q3]
  · have hn := nth_gw hi
    refine (thereS P (gw R i) (by omega)).mp fun n q => ?_
    rw [hc] at q
    simp (disch := omega) [L31_0, ltT, geT, hl, hn, q, wrap64]
  · have hn := nth_gw hi
    refine (thereS P (gw R i) (by omega)).mp fun n q => ?_
    rw [hc] at q
    simp (disch := omega) [L31_0, ltT, geT, hl, hn, q, wrap64]
  · simp (disch := omega) [L31_0, ltF, hl]
theorem hcopyS (hW : W.length ≤ 1048576) : Rn 32 [heapV W half base next] [heapV W half base next] :=
  Is.of e32 (Evt.all fun n => by have := wordsLen W; simp (disch := omega) [F32, leNT, this])
theorem hcopyI (hW : W.length ≤ 1048576) : Rn 23 [heapV W half base next] [heapV W half base next] :=
  Is.of e23 ((copyI (l := W.map PV.int) (by simpa using hW)).mp fun n q => by simp [F23, q])
end
def seenL (was : List Nat) : List PV := was.map fun p : Nat => PV.agg [.int (2 * (p : Int)), .bool true]
theorem seen_get {x : Int} (h : x % 2 = 0) (h0 : 0 ≤ x) : ∀ was : List Nat, mgetL (.bool false) x (seenL was) = .bool (decide ((x / 2).toNat ∈ was))
  | [] => rfl
  | p :: was => by
    show (if ((PV.agg [.int (2 * (p : Int)), .bool true]).fld 0).toInt = x then (PV.agg [.int (2 * (p : Int)), .bool true]).fld 1 else mgetL (.bool false) x (seenL was)) = _
    by_cases e : 2 * (p : Int) = x
    · have e2 : (x / 2).toNat = p := by omega
      simp [e, e2]
    · have e2 : ¬ (x / 2).toNat = p := by omega
      rw [if_neg (by simpa using e), seen_get h h0 was]
      simp [e2]
theorem seen_set {x : Int} (h : x % 2 = 0) (h0 : 0 ≤ x) : ∀ was : List Nat, (x / 2).toNat ∉ was → msetL x (.bool true) (seenL was) = seenL (was ++ [(x / 2).toNat])
  | [], _ => by
    have e : 2 * (((x / 2).toNat : Nat) : Int) = x := by omega
    show [PV.agg [.int x, .bool true]] = [PV.agg [.int (2 * (((x / 2).toNat : Nat) : Int)), .bool true]]
    rw [e]
  | p :: was, hn => by
    have e : ¬ 2 * (p : Int) = x := fun e => hn (by rw [show (x / 2).toNat = p by omega]; simp)
    show (if ((PV.agg [.int (2 * (p : Int)), .bool true]).fld 0).toInt = x then _ else PV.agg [.int (2 * (p : Int)), .bool true] :: msetL x (.bool true) (seenL was)) = _
    rw [if_neg (by simpa using e), seen_set h h0 was fun hm => hn (by simp [hm])]
    rfl
theorem there_ev {P : List Nat} {x : Int} (h : there P x = true) (he : x % 2 = 0) : 0 ≤ x ∧ (x / 2).toNat ∈ P := by
  have c : eqI (x % 2) 0 = true := eqT he
  simp only [there, c, Bool.not_true, Bool.false_and, Bool.false_or, Bool.true_and] at h
  obtain ⟨p, hp, e⟩ := inP_iff.1 h
  exact ⟨by omega, by rw [show (x / 2).toNat = p by omega]; exact hp⟩
theorem kidsW {W : List Int} {p : Nat} (h : p + 1 + mny (gw W p) ≤ W.length) : ((W.map PV.int).drop (p + 1)).take (mny (gw W p)) = (kids W p).map PV.int := by
  apply List.ext_getElem
  · simp [kids_len]; omega
  · intro i h1 h2
    have hi : i < mny (gw W p) := by simp [kids_len] at h2; exact h2
    simp only [List.getElem_take, List.getElem_drop, List.getElem_map]
    have := kids_gw (W := W) (p := p) (k := i) hi
    simp only [gw, List.getD_eq_getElem?_getD] at this
    rw [List.getElem?_eq_getElem (by rw [kids_len]; exact hi), List.getElem?_eq_getElem (by omega)] at this
    simpa using this.symm
theorem meetI {P : List Nat} (hP : P.length ≤ 3000) {was : List Nat} (hw : Way P was) {l : List Int} (hl : ∀ x, x ∈ l → there P x = true) (hll : l.length ≤ 1048576) :
    Rn 53 [words l, .list (seenL was), nats was] [.list (seenL (addAll was l)), nats (addAll was l)] := by
  have hlen := wordsLen l
  have h1 := loop_run (body := fun n => L53_0 (ev Tryz.prog sg n) n) (fun k => [.int k, .int l.length, words l, .list (seenL (addAll was (l.take k))), nats (addAll was (l.take k))]) l.length (e := .x 0) (res := [.list (seenL (addAll was l)), nats (addAll was l)]) (fun k hk => ?_) (Evt.all fun n => ?_) (by decide)
  · refine Is.of e53 (h1.mp fun n q => ?_)
    have q' : loopEv (L53_0 (ev Tryz.prog sg n) n) n [.int 0, .int l.length, words l, .list (seenL was), nats was] = some (.x 0, [.list (seenL (addAll was l)), nats (addAll was l)]) := q
    simp [F53, hlen, q']
  · have hn := nth_gw hk
    have hx : there P (gw l k) = true := hl _ (by simp [gw, List.getD_eq_getElem?_getD, hk])
    have e1 : l.take (k + 1) = l.take k ++ [gw l k] := by
      rw [List.take_add_one, List.getElem?_eq_getElem hk]
      simp [gw, List.getD_eq_getElem?_getD, hk]
    rw [e1, addAll_snoc]
    have hway : Way P (addAll was (l.take k)) := addAll_way hw fun x hx => hl x (List.mem_of_mem_take hx)
    have hwl := len_sub hway.nodup hway.sub
    generalize addAll was (l.take k) = was1 at hway hwl
    generalize gw l k = x at hn hx
    have c1 : ltI (k : Int) l.length = true := ltT (by omega)
    have c2 : geI (k : Int) 0 = true := geT (by omega)
    have w1 : IntKind.i64.wrap ((k : Int) + 1) = ((k + 1 : Nat) : Int) := by rw [wrap64 (by omega) (by omega)]; omega
    have hk' : ((k : Int)).toNat = k := by omega
    by_cases he : x % 2 = 0
    · obtain ⟨x0, xP⟩ := there_ev hx he
      have hg := seen_get he x0 was1
      by_cases hm : (x / 2).toNat ∈ was1
      · have e2 : addW was1 x = was1 := by simp [addW, hm]
        rw [e2]
        refine (refI x).mp fun n q => ?_
        rw [eqT he] at q
        simp [L53_0, hlen, c1, c2, hk', hn, q, hg, hm, w1]
      · have e2 : addW was1 x = was1 ++ [(x / 2).toNat] := by simp [addW, hm, he]
        rw [e2]
        have hs := seen_set he x0 was1 hm
        have e3 : (was1.map fun p : Nat => PV.int (p : Int)) ++ [PV.int (x / 2)] = (was1 ++ [(x / 2).toNat]).map fun p : Nat => PV.int (p : Int) := by
          rw [← natsSnoc, show (((x / 2).toNat : Nat) : Int) = x / 2 by omega]
        have c3 : leN ((was1.map fun p : Nat => PV.int (p : Int)).length + [PV.int (x / 2)].length) 17592186044416 = true := leNT (by simp; omega)
        refine (refI x).mp2 (wrefI x) fun n q q2 => ?_
        rw [eqT he] at q
        have hgf : (mgetL (.bool false) x (seenL was1)).toBool = false := by rw [hg]; simp [hm]
        simp only [L53_0, nth_0, nth_1, nth_2, nth_3, nth_4, toInt_int, toList_list, toBool_bool, hlen, c1, iff_true', c2, hk', hn, q, q2, Option.bind_some, isB_bool, selB_true, beq_self_eq_true, hgf, Bool.not_false, c3, hs, e3, thenN_n, w1]
    · have e2 : addW was1 x = was1 := by simp [addW, he]
      rw [e2]
      refine (refI x).mp fun n q => ?_
      rw [eqF he] at q
      simp [L53_0, hlen, c1, c2, hk', hn, q, w1]
  · have c1 : ltI (l.length : Int) l.length = false := ltF (by omega)
    simp [L53_0, c1]
section
variable {W R : List Int} {half base next : Int} {P : List Nat}
theorem kidsAtI (h : SOk W half base next P) (hW : W.length ≤ 1048576) {p : Nat} (hp : p ∈ P) : Rn 26 [heapV W half base next, .int p] [words (kids W p)] := by
  have h1 := (h.mem p hp).1
  have := kidsI (half := half) (base := base) (next := next) h1 hW
  rwa [kidsW h1] at this
theorem metLoop (h : SOk W half base next P) (hW : W.length ≤ 1048576) : ∀ (d i : Nat) (was : List Nat), P.length ≤ i + d → Way P was → i ≤ was.length →
    Evt fun n => ∀ m, d + 1 ≤ m → loopEv (L25_0 (ev Tryz.prog sg n) n) m [.int i, heapV W half base next, .list (seenL was), nats was] = some (.x 0, [nats (bfs W d i was)]) := by
  have hpl := h.plen
  have stop : ∀ (i : Nat) (was : List Nat), i = was.length → Evt fun n => ∀ m, 1 ≤ m → loopEv (L25_0 (ev Tryz.prog sg n) n) m [.int i, heapV W half base next, .list (seenL was), nats was] = some (.x 0, [nats was]) := by
    intro i was hi
    refine Evt.all fun n m hm => ?_
    obtain ⟨m, rfl⟩ : ∃ m', m = m' + 1 := ⟨m - 1, by omega⟩
    have hnl := natsLen was
    have hB : L25_0 (ev Tryz.prog sg n) n [.int i, heapV W half base next, .list (seenL was), nats was] = some (.x 0, [nats was]) := by
      have c1 : ltI (i : Int) was.length = false := ltF (by omega)
      simp [L25_0, hnl, c1]
    simp only [loopEv, hB, thenN_x, passE_eq]
  intro d
  induction d with
  | zero =>
    intro i was hd hw hi
    have := len_sub hw.nodup hw.sub
    exact (stop i was (by omega)).mp fun n q m hm => q m (by omega)
  | succ d ih =>
    intro i was hd hw hi
    simp only [bfs]
    by_cases hlt : i < was.length
    · rw [if_pos hlt]
      have hpm : gp was i ∈ P := hw.sub _ (gp_mem hlt)
      have hway : Way P (addAll was (kids W (gp was i))) := addAll_way hw (h.kid _ hpm)
      have hgrow : was.length ≤ (addAll was (kids W (gp was i))).length := by
        obtain ⟨m, e⟩ := addAll_ext (kids W (gp was i)) was
        rw [e]; simp
      have hkl := kids_len W (gp was i)
      have hml := mny_lt (gw W (gp was i))
      have h2 := ih (i + 1) (addAll was (kids W (gp was i))) (by omega) hway (by omega)
      have h3 := kidsAtI h hW hpm
      have h4 := meetI hpl hw (h.kid _ hpm) (by omega)
      have hnl := natsLen was
      have hn := nth_gp hlt
      have hwl := len_sub hw.nodup hw.sub
      refine (Evt.and h3 h4).mp2 h2 fun n q1 q2 m hm => ?_
      obtain ⟨m, rfl⟩ : ∃ m', m = m' + 1 := ⟨m - 1, by omega⟩
      have hB : L25_0 (ev Tryz.prog sg n) n [.int i, heapV W half base next, .list (seenL was), nats was] = some (.n, [.int (i + 1 : Nat), heapV W half base next, .list (seenL (addAll was (kids W (gp was i)))), nats (addAll was (kids W (gp was i)))]) := by
        have c1 : ltI (i : Int) was.length = true := ltT (by omega)
        have c2 : geI (i : Int) 0 = true := geT (by omega)
        have w1 : IntKind.i64.wrap ((i : Int) + 1) = ((i + 1 : Nat) : Int) := by rw [wrap64 (by omega) (by omega)]; omega
        have hk' : ((i : Int)).toNat = i := by omega
        simp only [L25_0, nth_0, nth_1, nth_2, nth_3, toInt_int, toList_list, hnl, c1, iff_true', c2, hk', hn, q1.1, Option.bind_some, q1.2, w1]
      simp only [loopEv, hB, thenN_n]
      exact q2 m (by omega)
    · rw [if_neg hlt]
      exact (stop i was (by omega)).mp fun n q m hm => q m (by omega)
theorem metI (h : SOk W half base next P) (hW : W.length ≤ 1048576) (hR : ∀ x, x ∈ R → there P x = true) (hRl : R.length ≤ 1048576) : Rn 25 [heapV W half base next, words R] [nats (bfs W P.length 0 (addAll [] R))] := by
  have hpl := h.plen
  have hw0 : Way P [] := ⟨List.nodup_nil, by simp⟩
  have h1 := meetI hpl hw0 hR hRl
  have h2 := metLoop h hW P.length 0 (addAll [] R) (by omega) (addAll_way hw0 hR) (by omega)
  refine Is.of e25 (h1.mp3 h2 (Evt.ge 4000) fun n q1 q2 q3 => ?_)
  have q2' : loopEv (L25_0 (ev Tryz.prog sg n) n) n [.int 0, heapV W half base next, .list (seenL (addAll [] R)), nats (addAll [] R)] = some (.x 0, [nats (bfs W P.length 0 (addAll [] R))]) := q2 n (by omega)
  have q1' : ev Tryz.prog sg n 53 [words R, .list [], .list []] = some [.list (seenL (addAll [] R)), nats (addAll [] R)] := q1
  simp only [F25, nth_0, nth_1, q1', Option.bind_some, q2', thenE_some, passB_same, thenN_n]
end
/-! ### Blocks that are come to, as the reference finds them -/
theorem range_gp (f : Nat → Bool) (P : List Nat) : ((List.range P.length).all fun i => f (gp P i)) = P.all f := by
  rw [Bool.eq_iff_iff, List.all_eq_true, List.all_eq_true]
  constructor
  · intro h x hx
    obtain ⟨i, hi, rfl⟩ := List.getElem_of_mem hx
    have := h i (by simpa using hi)
    simpa [gp, List.getD_eq_getElem?_getD, hi] using this
  · intro h i hi
    have hi : i < P.length := by simpa using hi
    exact h _ (gp_mem hi)
theorem all_not_in (p : Int) : ∀ P : List Nat, (P.all fun q : Nat => !eqI (q : Int) p) = !inP P p
  | [] => rfl
  | q :: P => by
    have := all_not_in p P
    simp only [inP] at this ⊢
    simp only [List.all_cons, List.any_cons, this, Bool.not_or]
theorem inP_nat {P : List Nat} {p : Int} (h : 0 ≤ p) : inP P p = decide (p.toNat ∈ P) := by
  rw [Bool.eq_iff_iff, inP_iff, decide_eq_true_eq]
  constructor
  · rintro ⟨q, hq, e⟩
    rw [show p.toNat = q by omega]
    exact hq
  · exact fun h2 => ⟨_, h2, by omega⟩
theorem has7 (was : List Nat) (p : Int) (hl : was.length ≤ 1048576) : Rn 62 [nats was, .int p] [.bool (inP was p)] :=
  Is.of e62 ((hasS was p hl).mp fun n q => by simp [F62, q])
theorem natsOne (was : List Nat) {x : Int} (h0 : 0 ≤ x) : (was.map fun p : Nat => PV.int (p : Int)) ++ [PV.int (x / 2)] = (was ++ [(x / 2).toNat]).map fun p : Nat => PV.int (p : Int) := by
  rw [← natsSnoc, show (((x / 2).toNat : Nat) : Int) = x / 2 by omega]
theorem take_gw {l : List Int} {k : Nat} (hk : k < l.length) : l.take (k + 1) = l.take k ++ [gw l k] := by
  rw [List.take_add_one, List.getElem?_eq_getElem hk]
  simp [gw, List.getD_eq_getElem?_getD, hk]
theorem gw_mem {l : List Int} {k : Nat} (hk : k < l.length) : gw l k ∈ l := by simp [gw, List.getD_eq_getElem?_getD, hk]
theorem ordA {P : List Nat} (hP : P.length ≤ 3000) {R : List Int} (hR : ∀ x, x ∈ R → there P x = true) (hRl : R.length ≤ 1048576) (hv : PV) :
    Evt fun n => loopEv (L35_0 (ev Tryz.prog sg n) n) n [.int 0, words R, .list [], hv] = some (.x 0, [nats (addAll [] R), hv]) := by
  have hlen := wordsLen R
  have h1 := loop_run (body := fun n => L35_0 (ev Tryz.prog sg n) n) (fun k => [.int k, words R, nats (addAll [] (R.take k)), hv]) R.length (e := .x 0) (res := [nats (addAll [] R), hv]) (fun k hk => ?_) (Evt.all fun n => ?_) (by decide)
  · exact h1
  · have hn := nth_gw hk
    have hx := hR _ (gw_mem hk)
    rw [take_gw hk, addAll_snoc]
    have hway : Way P (addAll [] (R.take k)) := addAll_way ⟨List.nodup_nil, by simp⟩ fun x hx => hR x (List.mem_of_mem_take hx)
    have hwl := len_sub hway.nodup hway.sub
    generalize addAll [] (R.take k) = was1 at hway hwl
    generalize gw R k = x at hn hx
    have c1 : ltI (k : Int) R.length = true := ltT (by omega)
    have c2 : geI (k : Int) 0 = true := geT (by omega)
    have w1 : IntKind.i64.wrap ((k : Int) + 1) = ((k + 1 : Nat) : Int) := by rw [wrap64 (by omega) (by omega)]; omega
    have hk' : ((k : Int)).toNat = k := by omega
    by_cases he : x % 2 = 0
    · obtain ⟨x0, xP⟩ := there_ev hx he
      have hin := inP_nat (P := was1) (p := x / 2) (by omega)
      by_cases hm : (x / 2).toNat ∈ was1
      · have e2 : addW was1 x = was1 := by simp [addW, hm]
        rw [e2]
        refine (refS x).mp3 (wrefS x) (has7 was1 (x / 2) (by omega)) fun n q q2 q3 => ?_
        rw [eqT he] at q
        rw [hin, decide_eq_true hm] at q3
        simp [L35_0, hlen, c1, c2, hk', hn, q, q2, q3, w1]
      · have e2 : addW was1 x = was1 ++ [(x / 2).toNat] := by simp [addW, hm, he]
        rw [e2]
        have e3 := natsOne was1 x0
        have c3 : leN ((was1.map fun p : Nat => PV.int (p : Int)).length + [PV.int (x / 2)].length) 17592186044416 = true := leNT (by simp; omega)
        refine (refS x).mp3 (wrefS x) (has7 was1 (x / 2) (by omega)) fun n q q2 q3 => ?_
        rw [eqT he] at q
        rw [hin, decide_eq_false hm] at q3
        simp only [L35_0, nth_0, nth_1, nth_2, nth_3, toInt_int, toList_list, toBool_bool, hlen, c1, iff_true', c2, hk', hn, q, q2, q3, Option.bind_some, isB_bool, selB_true, beq_self_eq_true, Bool.not_false, c3, e3, thenN_n, w1]
    · have e2 : addW was1 x = was1 := by simp [addW, he]
      rw [e2]
      refine (refS x).mp fun n q => ?_
      rw [eqF he] at q
      simp [L35_0, hlen, c1, c2, hk', hn, q, w1]
  · rw [List.take_length]
    have c1 : ltI (R.length : Int) R.length = false := ltF (by omega)
    simp only [L35_0, nth_0, nth_1, nth_2, nth_3, toInt_int, toList_list, hlen, c1, iff_false']
section
variable {W R : List Int} {half base next : Int} {P : List Nat}
theorem ordB (h : SOk W half base next P) (hW : W.length ≤ 1048576) {p : Nat} (hp : p ∈ P) {was : List Nat} (hw : Way P was) {i : Nat} (hi : i < was.length) (hg : gp was i = p) :
    Evt fun n => loopEv (L35_1 (ev Tryz.prog sg n) n) n [.int 1, .int (mny (gw W p)), .int i, nats was, heapV W half base next] = some (.x 4, [.int i, nats (addAll was (kids W p)), heapV W half base next]) := by
  have hWl := wordsLen W
  have hkl := kids_len W p
  have hml := mny_lt (gw W p)
  obtain ⟨hm1, _⟩ := h.mem _ hp
  have hpl := h.plen
  have h1 := loop_run (body := fun n => L35_1 (ev Tryz.prog sg n) n) (fun j => [.int (j + 1 : Nat), .int (mny (gw W p)), .int i, nats (addAll was ((kids W p).take j)), heapV W half base next]) (kids W p).length (e := .x 4) (res := [.int i, nats (addAll was (kids W p)), heapV W half base next]) (fun k hk => ?_) (Evt.all fun n => ?_) (by decide)
  · exact h1
  · have hx := h.kid _ hp _ (gw_mem hk)
    have hkg := kids_gw (W := W) (p := p) (k := k) (by omega)
    rw [take_gw hk, addAll_snoc]
    obtain ⟨m, hm⟩ := addAll_ext ((kids W p).take k) was
    have hgp : gp (addAll was ((kids W p).take k)) i = p := by
      rw [hm, ← hg]
      simp [gp, List.getD_eq_getElem?_getD, List.getElem?_append_left hi]
    have hil : i < (addAll was ((kids W p).take k)).length := by rw [hm]; simp; omega
    have hway : Way P (addAll was ((kids W p).take k)) := addAll_way hw fun x hx => h.kid _ hp x (List.mem_of_mem_take hx)
    have hwl := len_sub hway.nodup hway.sub
    generalize addAll was ((kids W p).take k) = was1 at hway hwl hgp hil
    have hn1 := nth_gp hil
    rw [hgp] at hn1
    have hnl := natsLen was1
    have hn := nth_gw (W := W) (i := p + 1 + k) (by omega)
    rw [← hkg] at hn
    generalize gw (kids W p) k = x at hn hx
    have c1 : leI ((k + 1 : Nat) : Int) (mny (gw W p)) = true := leT (by omega)
    have c2 : geI (i : Int) 0 = true := geT (by omega)
    have c3 : ltI (i : Int) was1.length = true := ltT (by omega)
    have w2 : IntKind.i64.wrap ((p : Int) + ((k + 1 : Nat) : Int)) = ((p + 1 + k : Nat) : Int) := by rw [wrap64 (by omega) (by omega)]; omega
    have c4 : geI ((p + 1 + k : Nat) : Int) 0 = true := geT (by omega)
    have c5 : ltI ((p + 1 + k : Nat) : Int) W.length = true := ltT (by omega)
    have w1 : IntKind.i64.wrap (((k + 1 : Nat) : Int) + 1) = ((k + 1 + 1 : Nat) : Int) := by rw [wrap64 (by omega) (by omega)]; omega
    have hi' : ((i : Int)).toNat = i := by omega
    have hpk : (((p + 1 + k : Nat) : Int)).toNat = p + 1 + k := by omega
    by_cases he : x % 2 = 0
    · obtain ⟨x0, xP⟩ := there_ev hx he
      have hin := inP_nat (P := was1) (p := x / 2) (by omega)
      by_cases hm : (x / 2).toNat ∈ was1
      · have e2 : addW was1 x = was1 := by simp [addW, hm]
        rw [e2]
        refine (refS x).mp3 (wrefS x) (has7 was1 (x / 2) (by omega)) fun n q q2 q3 => ?_
        rw [eqT he] at q
        rw [hin, decide_eq_true hm] at q3
        simp only [L35_1, nth_0, nth_1, nth_2, nth_3, nth_4, toInt_int, toList_list, toBool_bool, fld_agg, hWl, hnl, c1, iff_true', c2, c3, hi', hn1, w2, c4, c5, hpk, hn, q, q2, q3, Option.bind_some, isB_bool, selB_true, beq_self_eq_true, Bool.not_true, iff_false', thenN_n, w1]
      · have e2 : addW was1 x = was1 ++ [(x / 2).toNat] := by simp [addW, hm, he]
        rw [e2]
        have e3 := natsOne was1 x0
        have c6 : leN ((was1.map fun p : Nat => PV.int (p : Int)).length + [PV.int (x / 2)].length) 17592186044416 = true := leNT (by simp; omega)
        rw [hnl] at c6
        refine (refS x).mp3 (wrefS x) (has7 was1 (x / 2) (by omega)) fun n q q2 q3 => ?_
        rw [eqT he] at q
        rw [hin, decide_eq_false hm] at q3
        simp only [L35_1, nth_0, nth_1, nth_2, nth_3, nth_4, toInt_int, toList_list, toBool_bool, fld_agg, hWl, hnl, c1, iff_true', c2, c3, hi', hn1, w2, c4, c5, hpk, hn, q, q2, q3, Option.bind_some, isB_bool, selB_true, beq_self_eq_true, Bool.not_false, c6, e3, thenN_n, w1]
    · have e2 : addW was1 x = was1 := by simp [addW, he]
      rw [e2]
      refine (refS x).mp fun n q => ?_
      rw [eqF he] at q
      simp only [L35_1, nth_0, nth_1, nth_2, nth_3, nth_4, toInt_int, toList_list, toBool_bool, fld_agg, hWl, hnl, c1, iff_true', c2, c3, hi', hn1, w2, c4, c5, hpk, hn, q, Option.bind_some, isB_bool, selB_false, Bool.false_eq_true, iff_false', thenN_n, w1]
      simp
      exact wrap64 (by omega) (by omega)
  · rw [List.take_length]
    have c1 : leI (((kids W p).length + 1 : Nat) : Int) (mny (gw W p)) = false := leF (by omega)
    simp only [L35_1, nth_0, nth_1, nth_2, nth_3, nth_4, toInt_int, c1, iff_false']
theorem ordLoop (h : SOk W half base next P) (hW : W.length ≤ 1048576) : ∀ (d i : Nat) (was : List Nat), P.length ≤ i + d → Way P was → i ≤ was.length →
    Evt fun n => ∀ m, d + 1 ≤ m → loopEv (L35_2 (ev Tryz.prog sg n) n) m [.int i, nats was, heapV W half base next] = some (.x 2, [nats (bfs W d i was)]) := by
  have hpl := h.plen
  have hWl := wordsLen W
  have stop : ∀ (i : Nat) (was : List Nat), i = was.length → Evt fun n => ∀ m, 1 ≤ m → loopEv (L35_2 (ev Tryz.prog sg n) n) m [.int i, nats was, heapV W half base next] = some (.x 2, [nats was]) := by
    intro i was hi
    refine Evt.all fun n m hm => ?_
    obtain ⟨m, rfl⟩ : ∃ m', m = m' + 1 := ⟨m - 1, by omega⟩
    have hnl := natsLen was
    have hB : L35_2 (ev Tryz.prog sg n) n [.int i, nats was, heapV W half base next] = some (.x 2, [nats was]) := by
      have c1 : ltI (i : Int) was.length = false := ltF (by omega)
      simp only [L35_2, nth_0, nth_1, toInt_int, toList_list, hnl, c1, iff_false']
    simp only [loopEv, hB, thenN_x, passE_eq]
  intro d
  induction d with
  | zero =>
    intro i was hd hw hi
    have := len_sub hw.nodup hw.sub
    exact (stop i was (by omega)).mp fun n q m hm => q m (by omega)
  | succ d ih =>
    intro i was hd hw hi
    simp only [bfs]
    by_cases hlt : i < was.length
    · rw [if_pos hlt]
      have hpm : gp was i ∈ P := hw.sub _ (gp_mem hlt)
      have hway : Way P (addAll was (kids W (gp was i))) := addAll_way hw (h.kid _ hpm)
      have hgrow : was.length ≤ (addAll was (kids W (gp was i))).length := by
        obtain ⟨m, e⟩ := addAll_ext (kids W (gp was i)) was
        rw [e]; simp
      obtain ⟨hm1, _⟩ := h.mem _ hpm
      have h2 := ih (i + 1) (addAll was (kids W (gp was i))) (by omega) hway (by omega)
      have h3 := ofS (gw W (gp was i))
      have h4 := ordB h hW hpm hw hlt rfl
      have hnl := natsLen was
      have hn := nth_gp hlt
      have hn2 := nth_gw (W := W) (i := gp was i) (by omega)
      have hwl := len_sub hw.nodup hw.sub
      refine (Evt.and h3 h4).mp2 h2 fun n q1 q2 m hm => ?_
      obtain ⟨m, rfl⟩ : ∃ m', m = m' + 1 := ⟨m - 1, by omega⟩
      have hB : L35_2 (ev Tryz.prog sg n) n [.int i, nats was, heapV W half base next] = some (.n, [.int (i + 1 : Nat), nats (addAll was (kids W (gp was i))), heapV W half base next]) := by
        have c1 : ltI (i : Int) was.length = true := ltT (by omega)
        have c2 : geI (i : Int) 0 = true := geT (by omega)
        have c3 : geI (gp was i : Int) 0 = true := geT (by omega)
        have c4 : ltI (gp was i : Int) W.length = true := ltT (by omega)
        have w1 : IntKind.i64.wrap ((i : Int) + 1) = ((i + 1 : Nat) : Int) := by rw [wrap64 (by omega) (by omega)]; omega
        have hk' : ((i : Int)).toNat = i := by omega
        have hp' : ((gp was i : Int)).toNat = gp was i := by omega
        simp only [L35_2, nth_0, nth_1, nth_2, toInt_int, toList_list, fld_agg, hnl, hWl, c1, iff_true', c2, c3, c4, hk', hn, hp', hn2, q1.1, Option.bind_some, q1.2, thenE_some, passB_same, thenN_n, w1]
      simp only [loopEv, hB, thenN_n]
      exact q2 m (by omega)
    · rw [if_neg hlt]
      exact (stop i was (by omega)).mp fun n q m hm => q m (by omega)
theorem orderS (h : SOk W half base next P) (hW : W.length ≤ 1048576) (hR : ∀ x, x ∈ R → there P x = true) (hRl : R.length ≤ 1048576) : Rn 35 [heapV W half base next, words R] [nats (bfs W P.length 0 (addAll [] R))] := by
  have hpl := h.plen
  have h1 := ordA hpl hR hRl (heapV W half base next)
  have h2 := ordLoop h hW P.length 0 (addAll [] R) (by omega) (addAll_way ⟨List.nodup_nil, by simp⟩ hR) (by omega)
  refine Is.of e35 (h1.mp3 h2 (Evt.ge 4000) fun n q1 q2 q3 => ?_)
  have q2' : loopEv (L35_2 (ev Tryz.prog sg n) n) n [.int 0, nats (addAll [] R), heapV W half base next] = some (.x 2, [nats (bfs W P.length 0 (addAll [] R))]) := q2 n (by omega)
  simp only [F35, nth_0, nth_1, q1, thenE_some, passB_same, thenN_n, q2']
end
theorem bfs_ok {W : List Int} {half base next : Int} {P : List Nat} (h : SOk W half base next P) : ∀ (d i : Nat) (was : List Nat), P.length ≤ i + d → Way P was → i ≤ was.length → (∀ q, q ∈ was.take i → ∀ x, x ∈ kids W q → inW was x) →
    Way P (bfs W d i was) ∧ (∀ q, q ∈ bfs W d i was → ∀ x, x ∈ kids W q → inW (bfs W d i was) x) ∧ ∀ x, inW was x → inW (bfs W d i was) x := by
  intro d
  induction d with
  | zero =>
    intro i was h1 hw hi hc
    have hl := len_sub hw.nodup hw.sub
    have e : i = was.length := by omega
    exact ⟨hw, fun q hq => hc q (by rw [e, List.take_length]; exact hq), fun x hx => hx⟩
  | succ d ih =>
    intro i was h1 hw hi hc
    by_cases hlt : i < was.length
    rotate_left
    · have e : i = was.length := by omega
      have eb : bfs W (d + 1) i was = was := by simp [bfs, hlt]
      rw [eb]
      exact ⟨hw, fun q hq => hc q (by rw [e, List.take_length]; exact hq), fun x hx => hx⟩
    have eb : bfs W (d + 1) i was = bfs W d (i + 1) (addAll was (kids W (gp was i))) := by simp [bfs, hlt]
    rw [eb]
    generalize hp : gp was i = p at *
    have hpP : p ∈ P := hw.sub p (hp ▸ gp_mem hlt)
    have hw2 : Way P (addAll was (kids W p)) := addAll_way hw (h.kid p hpP)
    obtain ⟨nl, hnl⟩ := addAll_ext (kids W p) was
    have htk : (addAll was (kids W p)).take i = was.take i := by rw [hnl, List.take_append_of_le_length (by omega)]
    have hgp : gp (addAll was (kids W p)) i = p := by
      rw [hnl, ← hp]
      simp [gp, List.getD_eq_getElem?_getD, List.getElem?_append_left hlt]
    have hlt2 : i < (addAll was (kids W p)).length := by rw [hnl]; simp; omega
    have htk1 : (addAll was (kids W p)).take (i + 1) = was.take i ++ [p] := by rw [take_gp hlt2, htk, hgp]
    obtain ⟨p1, p2, p3⟩ := ih (i + 1) (addAll was (kids W p)) (by omega) hw2 (by omega) (fun q hq x hx => by
      rw [htk1] at hq
      rcases List.mem_append.1 hq with hq | hq
      · exact inW_all (hc q hq x hx)
      · rw [List.mem_singleton.1 hq] at hx
        exact addAll_in hx)
    exact ⟨p1, p2, fun x hx => p3 x (inW_all hx)⟩
theorem fin_ok {W R : List Int} {half base next : Int} {P : List Nat} (h : SOk W half base next P) (hR : ∀ x, x ∈ R → there P x = true) :
    Way P (bfs W P.length 0 (addAll [] R)) ∧ (∀ q, q ∈ bfs W P.length 0 (addAll [] R) → ∀ x, x ∈ kids W q → inW (bfs W P.length 0 (addAll [] R)) x) ∧ (∀ x, x ∈ R → inW (bfs W P.length 0 (addAll [] R)) x) ∧ (bfs W P.length 0 (addAll [] R)).length ≤ 3000 := by
  obtain ⟨p1, p2, p3⟩ := bfs_ok h P.length 0 (addAll [] R) (by omega) (addAll_way ⟨List.nodup_nil, by simp⟩ hR) (by omega) (by simp)
  have := len_sub p1.nodup p1.sub
  have := h.plen
  exact ⟨p1, p2, fun x hx => p3 x (addAll_in hx), by omega⟩
end Go.Proofs.YthmhgnnaihkjaaaGreatDoor.GFnMoved
