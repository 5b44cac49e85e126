/- What functions of the program and of the reference come to, for the law FnExactCollect. Each under the conditions that it names. -/
import Derived.Test.YthmhgnnaihkjaaaDFnExactCollect
namespace Go.Proofs.Ythmhgnnaihkjaaa.GFnExactCollect
open Go Go.Rsc Go.Proofs.Ythmhgnnaihkjaaa
set_option maxRecDepth 100000
set_option linter.unusedVariables false
set_option linter.unusedSimpArgs false
/-! ### Blocks that are come to, as the program finds them -/
section
variable {W R : List Int} {half base next : Int}
theorem rightS (hW : W.length ≤ 1048576) (hW2 : ∀ w, w ∈ W → -9223372036854775808 ≤ w ∧ w < 9223372036854775808) (hR : R.length ≤ 1048576) : Rn 29 [heapV W half base next, words R] [.bool (heapB W half base next && allP (plcs W base next) R)] := by
  have hl := wordsLen R
  have r1 := heapS (half := half) (base := base) (next := next) hW fun w hw => (hW2 w hw).2
  cases c1 : heapB W half base next with
  | false =>
    rw [c1] at r1
    exact Is.of e29 (r1.mp fun n q => by simp [F29, q])
  | true =>
  rw [c1] at r1
  have hp := (heapB_pre c1).2
  have r2 := placesS hp fun w hw => (hW2 w hw).2
  have hP := plcs_len W base next
  generalize plcs W base next = P at *
  have h1 := all_loop (body := fun n => L29_0 (ev Try.prog sg n) n) (pay := fun i => [.int i, nats P, words R]) (c := fun i => there P (gw R i)) (e1 := .x 0) (r1 := []) (e2 := .r) (r2 := [.bool false]) R.length (by simp) (by simp) (fun i hi hc => ?_) (fun i hi hc => ?_) (Evt.all fun n => ?_)
  · rw [range_gw] at h1
    refine Is.of e29 (r1.mp3 r2 h1 fun n q1 q2 q3 => ?_)
    unfold allP
    simp only [show ((0 : Nat) : Int) = 0 from rfl] at q3
    cases hc : R.all (there P) <;> rw [hc] at q3 <;> simp at q3 <;> simp [F29, q1, q2, q3]
  · have hn := nth_gw hi
    refine (thereS P (gw R i) (by omega)).mp fun n q => ?_
    rw [hc] at q
    simp (disch := omega) [L29_0, ltT, geT, hl, hn, q, wrap64]
  · have hn := nth_gw hi
    refine (thereS P (gw R i) (by omega)).mp fun n q => ?_
    rw [hc] at q
    simp (disch := omega) [L29_0, ltT, geT, hl, hn, q, wrap64]
  · simp (disch := omega) [L29_0, ltF, hl]
theorem hcopyS (hW : W.length ≤ 1048576) : Rn 30 [heapV W half base next] [heapV W half base next] :=
  Is.of e30 (Evt.all fun n => by have := wordsLen W; simp (disch := omega) [F30, leNT, this])
theorem hcopyI (hW : W.length ≤ 1048576) : Rn 33 [heapV W half base next] [heapV W half base next] :=
  Is.of e33 ((copyI (l := W.map PV.int) (by simpa using hW)).mp fun n q => by simp [F33, q])
end
def seenL (was : List Nat) : List PV := was.map fun p : Nat => PV.agg [.int (2 * (p : Int)), .bool true]
theorem seen_get {x : Int} (h : x % 2 = 0) (h0 : 0 ≤ x) : ∀ was : List Nat, mgetL (.bool false) x (seenL was) = .bool (decide ((x / 2).toNat ∈ was))
  | [] => rfl
  | p :: was => by
    show (if ((PV.agg [.int (2 * (p : Int)), .bool true]).fld 0).toInt = x then (PV.agg [.int (2 * (p : Int)), .bool true]).fld 1 else mgetL (.bool false) x (seenL was)) = _
    by_cases e : 2 * (p : Int) = x
    · have e2 : (x / 2).toNat = p := by omega
      simp [e, e2]
    · have e2 : ¬ (x / 2).toNat = p := by omega
      rw [if_neg (by simpa using e), seen_get h h0 was]
      simp [e2]
theorem seen_set {x : Int} (h : x % 2 = 0) (h0 : 0 ≤ x) : ∀ was : List Nat, (x / 2).toNat ∉ was → msetL x (.bool true) (seenL was) = seenL (was ++ [(x / 2).toNat])
  | [], _ => by
    have e : 2 * (((x / 2).toNat : Nat) : Int) = x := by omega
    show [PV.agg [.int x, .bool true]] = [PV.agg [.int (2 * (((x / 2).toNat : Nat) : Int)), .bool true]]
    rw [e]
  | p :: was, hn => by
    have e : ¬ 2 * (p : Int) = x := fun e => hn (by rw [show (x / 2).toNat = p by omega]; simp)
    show (if ((PV.agg [.int (2 * (p : Int)), .bool true]).fld 0).toInt = x then _ else PV.agg [.int (2 * (p : Int)), .bool true] :: msetL x (.bool true) (seenL was)) = _
    rw [if_neg (by simpa using e), seen_set h h0 was fun hm => hn (by simp [hm])]
    rfl
theorem there_ev {P : List Nat} {x : Int} (h : there P x = true) (he : x % 2 = 0) : 0 ≤ x ∧ (x / 2).toNat ∈ P := by
  have c : eqI (x % 2) 0 = true := eqT he
  simp only [there, c, Bool.not_true, Bool.false_and, Bool.false_or, Bool.true_and] at h
  obtain ⟨p, hp, e⟩ := inP_iff.1 h
  exact ⟨by omega, by rw [show (x / 2).toNat = p by omega]; exact hp⟩
theorem kidsW {W : List Int} {p : Nat} (h : p + 1 + mny (gw W p) ≤ W.length) : ((W.map PV.int).drop (p + 1)).take (mny (gw W p)) = (kids W p).map PV.int := by
  apply List.ext_getElem
  · simp [kids_len]; omega
  · intro i h1 h2
    have hi : i < mny (gw W p) := by simp [kids_len] at h2; exact h2
    simp only [List.getElem_take, List.getElem_drop, List.getElem_map]
    have := kids_gw (W := W) (p := p) (k := i) hi
    simp only [gw, List.getD_eq_getElem?_getD] at this
    rw [List.getElem?_eq_getElem (by rw [kids_len]; exact hi), List.getElem?_eq_getElem (by omega)] at this
    simpa using this.symm
theorem meetI {P : List Nat} (hP : P.length ≤ 3000) {was : List Nat} (hw : Way P was) {l : List Int} (hl : ∀ x, x ∈ l → there P x = true) (hll : l.length ≤ 1048576) :
    Rn 65 [words l, .list (seenL was), nats was] [.list (seenL (addAll was l)), nats (addAll was l)] := by
  have hlen := wordsLen l
  have h1 := loop_run (body := fun n => L65_0 (ev Try.prog sg n) n) (fun k => [.int k, .int l.length, words l, .list (seenL (addAll was (l.take k))), nats (addAll was (l.take k))]) l.length (e := .x 0) (res := [.list (seenL (addAll was l)), nats (addAll was l)]) (fun k hk => ?_) (Evt.all fun n => ?_) (by decide)
  · refine Is.of e65 (h1.mp fun n q => ?_)
    have q' : loopEv (L65_0 (ev Try.prog sg n) n) n [.int 0, .int l.length, words l, .list (seenL was), nats was] = some (.x 0, [.list (seenL (addAll was l)), nats (addAll was l)]) := q
    simp [F65, hlen, q']
  · have hn := nth_gw hk
    have hx : there P (gw l k) = true := hl _ (by simp [gw, List.getD_eq_getElem?_getD, hk])
    have e1 : l.take (k + 1) = l.take k ++ [gw l k] := by
      rw [List.take_add_one, List.getElem?_eq_getElem hk]
      simp [gw, List.getD_eq_getElem?_getD, hk]
    rw [e1, addAll_snoc]
    have hway : Way P (addAll was (l.take k)) := addAll_way hw fun x hx => hl x (List.mem_of_mem_take hx)
    have hwl := len_sub hway.nodup hway.sub
    generalize addAll was (l.take k) = was1 at hway hwl
    generalize gw l k = x at hn hx
    have c1 : ltI (k : Int) l.length = true := ltT (by omega)
    have c2 : geI (k : Int) 0 = true := geT (by omega)
    have w1 : IntKind.i64.wrap ((k : Int) + 1) = ((k + 1 : Nat) : Int) := by rw [wrap64 (by omega) (by omega)]; omega
    have hk' : ((k : Int)).toNat = k := by omega
    by_cases he : x % 2 = 0
    · obtain ⟨x0, xP⟩ := there_ev hx he
      have hg := seen_get he x0 was1
      by_cases hm : (x / 2).toNat ∈ was1
      · have e2 : addW was1 x = was1 := by simp [addW, hm]
        rw [e2]
        refine (refI x).mp fun n q => ?_
        rw [eqT he] at q
        simp [L65_0, hlen, c1, c2, hk', hn, q, hg, hm, w1]
      · have e2 : addW was1 x = was1 ++ [(x / 2).toNat] := by simp [addW, hm, he]
        rw [e2]
        have hs := seen_set he x0 was1 hm
        have e3 : (was1.map fun p : Nat => PV.int (p : Int)) ++ [PV.int (x / 2)] = (was1 ++ [(x / 2).toNat]).map fun p : Nat => PV.int (p : Int) := by
          rw [← natsSnoc, show (((x / 2).toNat : Nat) : Int) = x / 2 by omega]
        have c3 : leN ((was1.map fun p : Nat => PV.int (p : Int)).length + [PV.int (x / 2)].length) 17592186044416 = true := leNT (by simp; omega)
        refine (refI x).mp2 (wrefI x) fun n q q2 => ?_
        rw [eqT he] at q
        have hgf : (mgetL (.bool false) x (seenL was1)).toBool = false := by rw [hg]; simp [hm]
        simp only [L65_0, nth_0, nth_1, nth_2, nth_3, nth_4, toInt_int, toList_list, toBool_bool, hlen, c1, iff_true', c2, hk', hn, q, q2, Option.bind_some, isB_bool, selB_true, beq_self_eq_true, hgf, Bool.not_false, c3, hs, e3, thenN_n, w1]
    · have e2 : addW was1 x = was1 := by simp [addW, he]
      rw [e2]
      refine (refI x).mp fun n q => ?_
      rw [eqF he] at q
      simp [L65_0, hlen, c1, c2, hk', hn, q, w1]
  · have c1 : ltI (l.length : Int) l.length = false := ltF (by omega)
    simp [L65_0, c1]
section
variable {W R : List Int} {half base next : Int} {P : List Nat}
theorem kidsAtI (h : SOk W half base next P) (hW : W.length ≤ 1048576) {p : Nat} (hp : p ∈ P) : Rn 36 [heapV W half base next, .int p] [words (kids W p)] := by
  have h1 := (h.mem p hp).1
  have := kidsI (half := half) (base := base) (next := next) h1 hW
  rwa [kidsW h1] at this
theorem metLoop (h : SOk W half base next P) (hW : W.length ≤ 1048576) : ∀ (d i : Nat) (was : List Nat), P.length ≤ i + d → Way P was → i ≤ was.length →
    Evt fun n => ∀ m, d + 1 ≤ m → loopEv (L35_0 (ev Try.prog sg n) n) m [.int i, heapV W half base next, .list (seenL was), nats was] = some (.x 0, [nats (bfs W d i was)]) := by
  have hpl := h.plen
  have stop : ∀ (i : Nat) (was : List Nat), i = was.length → Evt fun n => ∀ m, 1 ≤ m → loopEv (L35_0 (ev Try.prog sg n) n) m [.int i, heapV W half base next, .list (seenL was), nats was] = some (.x 0, [nats was]) := by
    intro i was hi
    refine Evt.all fun n m hm => ?_
    obtain ⟨m, rfl⟩ : ∃ m', m = m' + 1 := ⟨m - 1, by omega⟩
    have hnl := natsLen was
    have hB : L35_0 (ev Try.prog sg n) n [.int i, heapV W half base next, .list (seenL was), nats was] = some (.x 0, [nats was]) := by
      have c1 : ltI (i : Int) was.length = false := ltF (by omega)
      simp [L35_0, hnl, c1]
    simp only [loopEv, hB, thenN_x, passE_eq]
  intro d
  induction d with
  | zero =>
    intro i was hd hw hi
    have := len_sub hw.nodup hw.sub
    exact (stop i was (by omega)).mp fun n q m hm => q m (by omega)
  | succ d ih =>
    intro i was hd hw hi
    simp only [bfs]
    by_cases hlt : i < was.length
    · rw [if_pos hlt]
      have hpm : gp was i ∈ P := hw.sub _ (gp_mem hlt)
      have hway : Way P (addAll was (kids W (gp was i))) := addAll_way hw (h.kid _ hpm)
      have hgrow : was.length ≤ (addAll was (kids W (gp was i))).length := by
        obtain ⟨m, e⟩ := addAll_ext (kids W (gp was i)) was
        rw [e]; simp
      have hkl := kids_len W (gp was i)
      have hml := mny_lt (gw W (gp was i))
      have h2 := ih (i + 1) (addAll was (kids W (gp was i))) (by omega) hway (by omega)
      have h3 := kidsAtI h hW hpm
      have h4 := meetI hpl hw (h.kid _ hpm) (by omega)
      have hnl := natsLen was
      have hn := nth_gp hlt
      have hwl := len_sub hw.nodup hw.sub
      refine (Evt.and h3 h4).mp2 h2 fun n q1 q2 m hm => ?_
      obtain ⟨m, rfl⟩ : ∃ m', m = m' + 1 := ⟨m - 1, by omega⟩
      have hB : L35_0 (ev Try.prog sg n) n [.int i, heapV W half base next, .list (seenL was), nats was] = some (.n, [.int (i + 1 : Nat), heapV W half base next, .list (seenL (addAll was (kids W (gp was i)))), nats (addAll was (kids W (gp was i)))]) := by
        have c1 : ltI (i : Int) was.length = true := ltT (by omega)
        have c2 : geI (i : Int) 0 = true := geT (by omega)
        have w1 : IntKind.i64.wrap ((i : Int) + 1) = ((i + 1 : Nat) : Int) := by rw [wrap64 (by omega) (by omega)]; omega
        have hk' : ((i : Int)).toNat = i := by omega
        simp only [L35_0, nth_0, nth_1, nth_2, nth_3, toInt_int, toList_list, hnl, c1, iff_true', c2, hk', hn, q1.1, Option.bind_some, q1.2, w1]
      simp only [loopEv, hB, thenN_n]
      exact q2 m (by omega)
    · rw [if_neg hlt]
      exact (stop i was (by omega)).mp fun n q m hm => q m (by omega)
theorem metI (h : SOk W half base next P) (hW : W.length ≤ 1048576) (hR : ∀ x, x ∈ R → there P x = true) (hRl : R.length ≤ 1048576) : Rn 35 [heapV W half base next, words R] [nats (bfs W P.length 0 (addAll [] R))] := by
  have hpl := h.plen
  have hw0 : Way P [] := ⟨List.nodup_nil, by simp⟩
  have h1 := meetI hpl hw0 hR hRl
  have h2 := metLoop h hW P.length 0 (addAll [] R) (by omega) (addAll_way hw0 hR) (by omega)
  refine Is.of e35 (h1.mp3 h2 (Evt.ge 4000) fun n q1 q2 q3 => ?_)
  have q2' : loopEv (L35_0 (ev Try.prog sg n) n) n [.int 0, heapV W half base next, .list (seenL (addAll [] R)), nats (addAll [] R)] = some (.x 0, [nats (bfs W P.length 0 (addAll [] R))]) := q2 n (by omega)
  have q1' : ev Try.prog sg n 65 [words R, .list [], .list []] = some [.list (seenL (addAll [] R)), nats (addAll [] R)] := q1
  simp only [F35, nth_0, nth_1, q1', Option.bind_some, q2', thenE_some, passB_same, thenN_n]
end
end Go.Proofs.Ythmhgnnaihkjaaa.GFnExactCollect
