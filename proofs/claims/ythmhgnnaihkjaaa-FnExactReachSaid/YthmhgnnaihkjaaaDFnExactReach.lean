/- What functions of the program and of the reference come to, for the law FnExactReach. Each under the conditions that it names. -/
import Derived.Test.YthmhgnnaihkjaaaCFnExactReach
namespace Go.Proofs.Ythmhgnnaihkjaaa.GFnExactReach
open Go Go.Rsc Go.Proofs.Ythmhgnnaihkjaaa
set_option maxRecDepth 100000
set_option linter.unusedVariables false
set_option linter.unusedSimpArgs false
/-! ### Blocks that are come to, as the reference finds them -/
theorem range_gp (f : Nat → Bool) (P : List Nat) : ((List.range P.length).all fun i => f (gp P i)) = P.all f := by
  rw [Bool.eq_iff_iff, List.all_eq_true, List.all_eq_true]
  constructor
  · intro h x hx
    obtain ⟨i, hi, rfl⟩ := List.getElem_of_mem hx
    have := h i (by simpa using hi)
    simpa [gp, List.getD_eq_getElem?_getD, hi] using this
  · intro h i hi
    have hi : i < P.length := by simpa using hi
    exact h _ (gp_mem hi)
theorem all_not_in (p : Int) : ∀ P : List Nat, (P.all fun q : Nat => !eqI (q : Int) p) = !inP P p
  | [] => rfl
  | q :: P => by
    have := all_not_in p P
    simp only [inP] at this ⊢
    simp only [List.all_cons, List.any_cons, this, Bool.not_or]
theorem inP_nat {P : List Nat} {p : Int} (h : 0 ≤ p) : inP P p = decide (p.toNat ∈ P) := by
  rw [Bool.eq_iff_iff, inP_iff, decide_eq_true_eq]
  constructor
  · rintro ⟨q, hq, e⟩
    rw [show p.toNat = q by omega]
    exact hq
  · exact fun h2 => ⟨_, h2, by omega⟩
theorem has7 (was : List Nat) (p : Int) (hl : was.length ≤ 1048576) : Rn 73 [nats was, .int p] [.bool (inP was p)] :=
  Is.of e73 ((hasS was p hl).mp fun n q => by simp [F73, q])
theorem natsOne (was : List Nat) {x : Int} (h0 : 0 ≤ x) : (was.map fun p : Nat => PV.int (p : Int)) ++ [PV.int (x / 2)] = (was ++ [(x / 2).toNat]).map fun p : Nat => PV.int (p : Int) := by
  rw [← natsSnoc, show (((x / 2).toNat : Nat) : Int) = x / 2 by omega]
theorem take_gw {l : List Int} {k : Nat} (hk : k < l.length) : l.take (k + 1) = l.take k ++ [gw l k] := by
  rw [List.take_add_one, List.getElem?_eq_getElem hk]
  simp [gw, List.getD_eq_getElem?_getD, hk]
theorem gw_mem {l : List Int} {k : Nat} (hk : k < l.length) : gw l k ∈ l := by simp [gw, List.getD_eq_getElem?_getD, hk]
theorem ordA {P : List Nat} (hP : P.length ≤ 3000) {R : List Int} (hR : ∀ x, x ∈ R → there P x = true) (hRl : R.length ≤ 1048576) (hv : PV) :
    Evt fun n => loopEv (L52_0 (ev Try.prog sg n) n) n [.int 0, words R, .list [], hv] = some (.x 0, [nats (addAll [] R), hv]) := by
  have hlen := wordsLen R
  have h1 := loop_run (body := fun n => L52_0 (ev Try.prog sg n) n) (fun k => [.int k, words R, nats (addAll [] (R.take k)), hv]) R.length (e := .x 0) (res := [nats (addAll [] R), hv]) (fun k hk => ?_) (Evt.all fun n => ?_) (by decide)
  · exact h1
  · have hn := nth_gw hk
    have hx := hR _ (gw_mem hk)
    rw [take_gw hk, addAll_snoc]
    have hway : Way P (addAll [] (R.take k)) := addAll_way ⟨List.nodup_nil, by simp⟩ fun x hx => hR x (List.mem_of_mem_take hx)
    have hwl := len_sub hway.nodup hway.sub
    generalize addAll [] (R.take k) = was1 at hway hwl
    generalize gw R k = x at hn hx
    have c1 : ltI (k : Int) R.length = true := ltT (by omega)
    have c2 : geI (k : Int) 0 = true := geT (by omega)
    have w1 : IntKind.i64.wrap ((k : Int) + 1) = ((k + 1 : Nat) : Int) := by rw [wrap64 (by omega) (by omega)]; omega
    have hk' : ((k : Int)).toNat = k := by omega
    by_cases he : x % 2 = 0
    · obtain ⟨x0, xP⟩ := there_ev hx he
      have hin := inP_nat (P := was1) (p := x / 2) (by omega)
      by_cases hm : (x / 2).toNat ∈ was1
      · have e2 : addW was1 x = was1 := by simp [addW, hm]
        rw [e2]
        refine (refS x).mp3 (wrefS x) (has7 was1 (x / 2) (by omega)) fun n q q2 q3 => ?_
        rw [eqT he] at q
        rw [hin, decide_eq_true hm] at q3
        simp [L52_0, hlen, c1, c2, hk', hn, q, q2, q3, w1]
      · have e2 : addW was1 x = was1 ++ [(x / 2).toNat] := by simp [addW, hm, he]
        rw [e2]
        have e3 := natsOne was1 x0
        have c3 : leN ((was1.map fun p : Nat => PV.int (p : Int)).length + [PV.int (x / 2)].length) 17592186044416 = true := leNT (by simp; omega)
        refine (refS x).mp3 (wrefS x) (has7 was1 (x / 2) (by omega)) fun n q q2 q3 => ?_
        rw [eqT he] at q
        rw [hin, decide_eq_false hm] at q3
        simp only [L52_0, nth_0, nth_1, nth_2, nth_3, toInt_int, toList_list, toBool_bool, hlen, c1, iff_true', c2, hk', hn, q, q2, q3, Option.bind_some, isB_bool, selB_true, beq_self_eq_true, Bool.not_false, c3, e3, thenN_n, w1]
    · have e2 : addW was1 x = was1 := by simp [addW, he]
      rw [e2]
      refine (refS x).mp fun n q => ?_
      rw [eqF he] at q
      simp [L52_0, hlen, c1, c2, hk', hn, q, w1]
  · rw [List.take_length]
    have c1 : ltI (R.length : Int) R.length = false := ltF (by omega)
    simp only [L52_0, nth_0, nth_1, nth_2, nth_3, toInt_int, toList_list, hlen, c1, iff_false']
section
variable {W R : List Int} {half base next : Int} {P : List Nat}
theorem ordB (h : SOk W half base next P) (hW : W.length ≤ 1048576) {p : Nat} (hp : p ∈ P) {was : List Nat} (hw : Way P was) {i : Nat} (hi : i < was.length) (hg : gp was i = p) :
    Evt fun n => loopEv (L52_1 (ev Try.prog sg n) n) n [.int 1, .int (mny (gw W p)), .int i, nats was, heapV W half base next] = some (.x 4, [.int i, nats (addAll was (kids W p)), heapV W half base next]) := by
  have hWl := wordsLen W
  have hkl := kids_len W p
  have hml := mny_lt (gw W p)
  obtain ⟨hm1, _⟩ := h.mem _ hp
  have hpl := h.plen
  have h1 := loop_run (body := fun n => L52_1 (ev Try.prog sg n) n) (fun j => [.int (j + 1 : Nat), .int (mny (gw W p)), .int i, nats (addAll was ((kids W p).take j)), heapV W half base next]) (kids W p).length (e := .x 4) (res := [.int i, nats (addAll was (kids W p)), heapV W half base next]) (fun k hk => ?_) (Evt.all fun n => ?_) (by decide)
  · exact h1
  · have hx := h.kid _ hp _ (gw_mem hk)
    have hkg := kids_gw (W := W) (p := p) (k := k) (by omega)
    rw [take_gw hk, addAll_snoc]
    obtain ⟨m, hm⟩ := addAll_ext ((kids W p).take k) was
    have hgp : gp (addAll was ((kids W p).take k)) i = p := by
      rw [hm, ← hg]
      simp [gp, List.getD_eq_getElem?_getD, List.getElem?_append_left hi]
    have hil : i < (addAll was ((kids W p).take k)).length := by rw [hm]; simp; omega
    have hway : Way P (addAll was ((kids W p).take k)) := addAll_way hw fun x hx => h.kid _ hp x (List.mem_of_mem_take hx)
    have hwl := len_sub hway.nodup hway.sub
    generalize addAll was ((kids W p).take k) = was1 at hway hwl hgp hil
    have hn1 := nth_gp hil
    rw [hgp] at hn1
    have hnl := natsLen was1
    have hn := nth_gw (W := W) (i := p + 1 + k) (by omega)
    rw [← hkg] at hn
    generalize gw (kids W p) k = x at hn hx
    have c1 : leI ((k + 1 : Nat) : Int) (mny (gw W p)) = true := leT (by omega)
    have c2 : geI (i : Int) 0 = true := geT (by omega)
    have c3 : ltI (i : Int) was1.length = true := ltT (by omega)
    have w2 : IntKind.i64.wrap ((p : Int) + ((k + 1 : Nat) : Int)) = ((p + 1 + k : Nat) : Int) := by rw [wrap64 (by omega) (by omega)]; omega
    have c4 : geI ((p + 1 + k : Nat) : Int) 0 = true := geT (by omega)
    have c5 : ltI ((p + 1 + k : Nat) : Int) W.length = true := ltT (by omega)
    have w1 : IntKind.i64.wrap (((k + 1 : Nat) : Int) + 1) = ((k + 1 + 1 : Nat) : Int) := by rw [wrap64 (by omega) (by omega)]; omega
    have hi' : ((i : Int)).toNat = i := by omega
    have hpk : (((p + 1 + k : Nat) : Int)).toNat = p + 1 + k := by omega
    by_cases he : x % 2 = 0
    · obtain ⟨x0, xP⟩ := there_ev hx he
      have hin := inP_nat (P := was1) (p := x / 2) (by omega)
      by_cases hm : (x / 2).toNat ∈ was1
      · have e2 : addW was1 x = was1 := by simp [addW, hm]
        rw [e2]
        refine (refS x).mp3 (wrefS x) (has7 was1 (x / 2) (by omega)) fun n q q2 q3 => ?_
        rw [eqT he] at q
        rw [hin, decide_eq_true hm] at q3
        simp only [L52_1, nth_0, nth_1, nth_2, nth_3, nth_4, toInt_int, toList_list, toBool_bool, fld_agg, hWl, hnl, c1, iff_true', c2, c3, hi', hn1, w2, c4, c5, hpk, hn, q, q2, q3, Option.bind_some, isB_bool, selB_true, beq_self_eq_true, Bool.not_true, iff_false', thenN_n, w1]
      · have e2 : addW was1 x = was1 ++ [(x / 2).toNat] := by simp [addW, hm, he]
        rw [e2]
        have e3 := natsOne was1 x0
        have c6 : leN ((was1.map fun p : Nat => PV.int (p : Int)).length + [PV.int (x / 2)].length) 17592186044416 = true := leNT (by simp; omega)
        rw [hnl] at c6
        refine (refS x).mp3 (wrefS x) (has7 was1 (x / 2) (by omega)) fun n q q2 q3 => ?_
        rw [eqT he] at q
        rw [hin, decide_eq_false hm] at q3
        simp only [L52_1, nth_0, nth_1, nth_2, nth_3, nth_4, toInt_int, toList_list, toBool_bool, fld_agg, hWl, hnl, c1, iff_true', c2, c3, hi', hn1, w2, c4, c5, hpk, hn, q, q2, q3, Option.bind_some, isB_bool, selB_true, beq_self_eq_true, Bool.not_false, c6, e3, thenN_n, w1]
    · have e2 : addW was1 x = was1 := by simp [addW, he]
      rw [e2]
      refine (refS x).mp fun n q => ?_
      rw [eqF he] at q
      simp only [L52_1, nth_0, nth_1, nth_2, nth_3, nth_4, toInt_int, toList_list, toBool_bool, fld_agg, hWl, hnl, c1, iff_true', c2, c3, hi', hn1, w2, c4, c5, hpk, hn, q, Option.bind_some, isB_bool, selB_false, Bool.false_eq_true, iff_false', thenN_n, w1]
      simp
      exact wrap64 (by omega) (by omega)
  · rw [List.take_length]
    have c1 : leI (((kids W p).length + 1 : Nat) : Int) (mny (gw W p)) = false := leF (by omega)
    simp only [L52_1, nth_0, nth_1, nth_2, nth_3, nth_4, toInt_int, c1, iff_false']
theorem ordLoop (h : SOk W half base next P) (hW : W.length ≤ 1048576) : ∀ (d i : Nat) (was : List Nat), P.length ≤ i + d → Way P was → i ≤ was.length →
    Evt fun n => ∀ m, d + 1 ≤ m → loopEv (L52_2 (ev Try.prog sg n) n) m [.int i, nats was, heapV W half base next] = some (.x 2, [nats (bfs W d i was)]) := by
  have hpl := h.plen
  have hWl := wordsLen W
  have stop : ∀ (i : Nat) (was : List Nat), i = was.length → Evt fun n => ∀ m, 1 ≤ m → loopEv (L52_2 (ev Try.prog sg n) n) m [.int i, nats was, heapV W half base next] = some (.x 2, [nats was]) := by
    intro i was hi
    refine Evt.all fun n m hm => ?_
    obtain ⟨m, rfl⟩ : ∃ m', m = m' + 1 := ⟨m - 1, by omega⟩
    have hnl := natsLen was
    have hB : L52_2 (ev Try.prog sg n) n [.int i, nats was, heapV W half base next] = some (.x 2, [nats was]) := by
      have c1 : ltI (i : Int) was.length = false := ltF (by omega)
      simp only [L52_2, nth_0, nth_1, toInt_int, toList_list, hnl, c1, iff_false']
    simp only [loopEv, hB, thenN_x, passE_eq]
  intro d
  induction d with
  | zero =>
    intro i was hd hw hi
    have := len_sub hw.nodup hw.sub
    exact (stop i was (by omega)).mp fun n q m hm => q m (by omega)
  | succ d ih =>
    intro i was hd hw hi
    simp only [bfs]
    by_cases hlt : i < was.length
    · rw [if_pos hlt]
      have hpm : gp was i ∈ P := hw.sub _ (gp_mem hlt)
      have hway : Way P (addAll was (kids W (gp was i))) := addAll_way hw (h.kid _ hpm)
      have hgrow : was.length ≤ (addAll was (kids W (gp was i))).length := by
        obtain ⟨m, e⟩ := addAll_ext (kids W (gp was i)) was
        rw [e]; simp
      obtain ⟨hm1, _⟩ := h.mem _ hpm
      have h2 := ih (i + 1) (addAll was (kids W (gp was i))) (by omega) hway (by omega)
      have h3 := ofS (gw W (gp was i))
      have h4 := ordB h hW hpm hw hlt rfl
      have hnl := natsLen was
      have hn := nth_gp hlt
      have hn2 := nth_gw (W := W) (i := gp was i) (by omega)
      have hwl := len_sub hw.nodup hw.sub
      refine (Evt.and h3 h4).mp2 h2 fun n q1 q2 m hm => ?_
      obtain ⟨m, rfl⟩ : ∃ m', m = m' + 1 := ⟨m - 1, by omega⟩
      have hB : L52_2 (ev Try.prog sg n) n [.int i, nats was, heapV W half base next] = some (.n, [.int (i + 1 : Nat), nats (addAll was (kids W (gp was i))), heapV W half base next]) := by
        have c1 : ltI (i : Int) was.length = true := ltT (by omega)
        have c2 : geI (i : Int) 0 = true := geT (by omega)
        have c3 : geI (gp was i : Int) 0 = true := geT (by omega)
        have c4 : ltI (gp was i : Int) W.length = true := ltT (by omega)
        have w1 : IntKind.i64.wrap ((i : Int) + 1) = ((i + 1 : Nat) : Int) := by rw [wrap64 (by omega) (by omega)]; omega
        have hk' : ((i : Int)).toNat = i := by omega
        have hp' : ((gp was i : Int)).toNat = gp was i := by omega
        simp only [L52_2, nth_0, nth_1, nth_2, toInt_int, toList_list, fld_agg, hnl, hWl, c1, iff_true', c2, c3, c4, hk', hn, hp', hn2, q1.1, Option.bind_some, q1.2, thenE_some, passB_same, thenN_n, w1]
      simp only [loopEv, hB, thenN_n]
      exact q2 m (by omega)
    · rw [if_neg hlt]
      exact (stop i was (by omega)).mp fun n q m hm => q m (by omega)
theorem orderS (h : SOk W half base next P) (hW : W.length ≤ 1048576) (hR : ∀ x, x ∈ R → there P x = true) (hRl : R.length ≤ 1048576) : Rn 52 [heapV W half base next, words R] [nats (bfs W P.length 0 (addAll [] R))] := by
  have hpl := h.plen
  have h1 := ordA hpl hR hRl (heapV W half base next)
  have h2 := ordLoop h hW P.length 0 (addAll [] R) (by omega) (addAll_way ⟨List.nodup_nil, by simp⟩ hR) (by omega)
  refine Is.of e52 (h1.mp3 h2 (Evt.ge 4000) fun n q1 q2 q3 => ?_)
  have q2' : loopEv (L52_2 (ev Try.prog sg n) n) n [.int 0, nats (addAll [] R), heapV W half base next] = some (.x 2, [nats (bfs W P.length 0 (addAll [] R))]) := q2 n (by omega)
  simp only [F52, nth_0, nth_1, q1, thenE_some, passB_same, thenN_n, q2']
end
theorem bfs_ok {W : List Int} {half base next : Int} {P : List Nat} (h : SOk W half base next P) : ∀ (d i : Nat) (was : List Nat), P.length ≤ i + d → Way P was → i ≤ was.length → (∀ q, q ∈ was.take i → ∀ x, x ∈ kids W q → inW was x) →
    Way P (bfs W d i was) ∧ (∀ q, q ∈ bfs W d i was → ∀ x, x ∈ kids W q → inW (bfs W d i was) x) ∧ ∀ x, inW was x → inW (bfs W d i was) x := by
  intro d
  induction d with
  | zero =>
    intro i was h1 hw hi hc
    have hl := len_sub hw.nodup hw.sub
    have e : i = was.length := by omega
    exact ⟨hw, fun q hq => hc q (by rw [e, List.take_length]; exact hq), fun x hx => hx⟩
  | succ d ih =>
    intro i was h1 hw hi hc
    by_cases hlt : i < was.length
    rotate_left
    · have e : i = was.length := by omega
      have eb : bfs W (d + 1) i was = was := by simp [bfs, hlt]
      rw [eb]
      exact ⟨hw, fun q hq => hc q (by rw [e, List.take_length]; exact hq), fun x hx => hx⟩
    have eb : bfs W (d + 1) i was = bfs W d (i + 1) (addAll was (kids W (gp was i))) := by simp [bfs, hlt]
    rw [eb]
    generalize hp : gp was i = p at *
    have hpP : p ∈ P := hw.sub p (hp ▸ gp_mem hlt)
    have hw2 : Way P (addAll was (kids W p)) := addAll_way hw (h.kid p hpP)
    obtain ⟨nl, hnl⟩ := addAll_ext (kids W p) was
    have htk : (addAll was (kids W p)).take i = was.take i := by rw [hnl, List.take_append_of_le_length (by omega)]
    have hgp : gp (addAll was (kids W p)) i = p := by
      rw [hnl, ← hp]
      simp [gp, List.getD_eq_getElem?_getD, List.getElem?_append_left hlt]
    have hlt2 : i < (addAll was (kids W p)).length := by rw [hnl]; simp; omega
    have htk1 : (addAll was (kids W p)).take (i + 1) = was.take i ++ [p] := by rw [take_gp hlt2, htk, hgp]
    obtain ⟨p1, p2, p3⟩ := ih (i + 1) (addAll was (kids W p)) (by omega) hw2 (by omega) (fun q hq x hx => by
      rw [htk1] at hq
      rcases List.mem_append.1 hq with hq | hq
      · exact inW_all (hc q hq x hx)
      · rw [List.mem_singleton.1 hq] at hx
        exact addAll_in hx)
    exact ⟨p1, p2, fun x hx => p3 x (inW_all hx)⟩
theorem fin_ok {W R : List Int} {half base next : Int} {P : List Nat} (h : SOk W half base next P) (hR : ∀ x, x ∈ R → there P x = true) :
    Way P (bfs W P.length 0 (addAll [] R)) ∧ (∀ q, q ∈ bfs W P.length 0 (addAll [] R) → ∀ x, x ∈ kids W q → inW (bfs W P.length 0 (addAll [] R)) x) ∧ (∀ x, x ∈ R → inW (bfs W P.length 0 (addAll [] R)) x) ∧ (bfs W P.length 0 (addAll [] R)).length ≤ 3000 := by
  obtain ⟨p1, p2, p3⟩ := bfs_ok h P.length 0 (addAll [] R) (by omega) (addAll_way ⟨List.nodup_nil, by simp⟩ hR) (by omega) (by simp)
  have := len_sub p1.nodup p1.sub
  have := h.plen
  exact ⟨p1, p2, fun x hx => p3 x (addAll_in hx), by omega⟩
theorem gp_new {l : List Nat} (h : l.Nodup) {k : Nat} (hk : k < l.length) : gp l k ∉ l.take k := by
  have h1 : (l.take (k + 1)).Nodup := (List.take_sublist _ _).nodup h
  rw [take_gp hk, List.nodup_append] at h1
  exact fun hm => h1.2.2 _ hm _ (by simp) rfl
theorem gp_take {l : List Nat} {t k : Nat} (h : t < k) : gp (l.take k) t = gp l t := by
  simp [gp, List.getD_eq_getElem?_getD, List.getElem?_take, h]
/-! ### Into a row in order -/
def insN (n : Nat) (l : List Nat) : List Nat := l.takeWhile (· < n) ++ n :: l.dropWhile (· < n)
theorem insN_perm (n : Nat) (l : List Nat) : (insN n l).Perm (n :: l) := by
  unfold insN
  conv => rhs; rw [← List.takeWhile_append_dropWhile (p := fun x => decide (x < n)) (l := l)]
  exact List.perm_middle
theorem insN_sorted {n : Nat} : ∀ {l : List Nat}, l.Pairwise (· ≤ ·) → (insN n l).Pairwise (· ≤ ·)
  | [], _ => by simp [insN]
  | a :: l, h => by
    by_cases hc : a < n
    · have e : insN n (a :: l) = a :: insN n l := by simp [insN, hc]
      rw [e]
      have h2 := List.pairwise_cons.1 h
      refine List.pairwise_cons.2 ⟨fun x hx => ?_, insN_sorted h2.2⟩
      rcases List.mem_cons.1 ((insN_perm n l).subset hx) with rfl | hx
      · omega
      · exact h2.1 x hx
    · have e : insN n (a :: l) = n :: a :: l := by simp [insN, hc]
      rw [e]
      refine List.pairwise_cons.2 ⟨fun x hx => ?_, h⟩
      rcases List.mem_cons.1 hx with rfl | hx
      · omega
      · have := (List.pairwise_cons.1 h).1 x hx; omega
def insAll (l : List Nat) : List Nat := l.foldl (fun s n => insN n s) []
theorem foldIns : ∀ (l s : List Nat), s.Pairwise (· ≤ ·) → (l.foldl (fun s n => insN n s) s).Perm (s ++ l) ∧ (l.foldl (fun s n => insN n s) s).Pairwise (· ≤ ·)
  | [], s, h => ⟨by simp, h⟩
  | n :: l, s, h => by
    obtain ⟨h1, h2⟩ := foldIns l (insN n s) (insN_sorted h)
    refine ⟨h1.trans ?_, h2⟩
    refine ((insN_perm n s).append_right l).trans ?_
    simpa using (List.perm_middle (a := n) (l₁ := s) (l₂ := l)).symm
theorem sort_nats (l : List Nat) : sortL (l.map fun p : Nat => PV.int (p : Int)) = (insAll l).map fun p : Nat => PV.int (p : Int) := by
  obtain ⟨h1, h2⟩ := foldIns l [] List.Pairwise.nil
  have e1 : (l.map fun p : Nat => PV.int (p : Int)).map PV.toInt = l.map fun p : Nat => (p : Int) := by
    rw [List.map_map]; rfl
  have e2 : (insAll l).map (fun p : Nat => PV.int (p : Int)) = ((insAll l).map fun p : Nat => (p : Int)).map PV.int := by
    rw [List.map_map]; rfl
  unfold sortL
  rw [e1, e2]
  congr 1
  refine List.Perm.eq_of_pairwise (le := fun a b : Int => decide (a ≤ b) = true) (fun a b _ _ h h' => ?_) (List.pairwise_mergeSort (fun a b c h h' => ?_) (fun a b => ?_) _) ?_ ?_
  · simp at h h'; omega
  · simp at h h' ⊢; omega
  · simp; omega
  · rw [List.pairwise_map]
    exact h2.imp fun h => by simpa using h
  · refine (List.mergeSort_perm _ _).trans ?_
    refine List.Perm.map _ ?_
    rw [List.nil_append] at h1
    exact h1.symm
theorem insN_eq (n : Nat) (s : List Nat) : insN n s = s.take (s.takeWhile (· < n)).length ++ n :: s.drop (s.takeWhile (· < n)).length := by
  have h := List.takeWhile_append_dropWhile (p := fun x => decide (x < n)) (l := s)
  have h1 : s.take (s.takeWhile fun x => decide (x < n)).length = s.takeWhile fun x => decide (x < n) := by
    have : (s.takeWhile (fun x => decide (x < n)) ++ s.dropWhile fun x => decide (x < n)).take (s.takeWhile fun x => decide (x < n)).length = s.takeWhile fun x => decide (x < n) := List.take_left
    rwa [h] at this
  have h2 : s.drop (s.takeWhile fun x => decide (x < n)).length = s.dropWhile fun x => decide (x < n) := by
    have : (s.takeWhile (fun x => decide (x < n)) ++ s.dropWhile fun x => decide (x < n)).drop (s.takeWhile fun x => decide (x < n)).length = s.dropWhile fun x => decide (x < n) := List.drop_left
    rwa [h] at this
  rw [h1, h2]
  rfl
theorem tw_at {n : Nat} : ∀ {s : List Nat} {i : Nat}, i < (s.takeWhile fun x => decide (x < n)).length → gp s i < n
  | a :: s, i, h => by
    by_cases hc : a < n
    · have e : (a :: s).takeWhile (fun x => decide (x < n)) = a :: s.takeWhile fun x => decide (x < n) := by simp [hc]
      rw [e, List.length_cons] at h
      cases i with
      | zero => simpa [gp] using hc
      | succ i =>
        have := tw_at (n := n) (s := s) (i := i) (by omega)
        simpa [gp] using this
    · have e : (a :: s).takeWhile (fun x => decide (x < n)) = [] := by simp [hc]
      rw [e] at h
      simp at h
  | [], i, h => by simp at h
theorem tw_end {n : Nat} : ∀ {s : List Nat}, (s.takeWhile fun x => decide (x < n)).length < s.length → ¬ gp s (s.takeWhile fun x => decide (x < n)).length < n
  | a :: s, h => by
    by_cases hc : a < n
    · have e : (a :: s).takeWhile (fun x => decide (x < n)) = a :: s.takeWhile fun x => decide (x < n) := by simp [hc]
      rw [e, List.length_cons, List.length_cons] at h
      rw [e, List.length_cons]
      have := tw_end (n := n) (s := s) (by omega)
      simpa [gp] using this
    · have e : (a :: s).takeWhile (fun x => decide (x < n)) = [] := by simp [hc]
      rw [e]
      simpa [gp] using hc
  | [], h => by simp at h
theorem tw_le (n : Nat) (s : List Nat) : (s.takeWhile (· < n)).length ≤ s.length := (List.takeWhile_sublist _).length_le
theorem withS {s : List Nat} (hs : s.length ≤ 1048576) {n : Nat} (hn : n ∉ s) (hn2 : n ≤ 1048576) : Rn 41 [nats s, .int n] [nats (insN n s)] := by
  have hnl := natsLen s
  have hh := hasS s n hs
  have h0 : inP s (n : Int) = false := by
    cases hc : inP s (n : Int) with
    | false => rfl
    | true =>
      obtain ⟨p, hp, e⟩ := inP_iff.1 hc
      exact absurd (show n ∈ s by rw [show n = p by omega]; exact hp) hn
  rw [h0] at hh
  have htl := tw_le n s
  have hta : ∀ i, i < (s.takeWhile (· < n)).length → gp s i < n := fun i hi => tw_at hi
  have hte := tw_end (n := n) (s := s)
  have he := insN_eq n s
  generalize (s.takeWhile (· < n)).length = at_ at *
  have h1 := loop_run (body := fun m => L41_0 (ev Try.prog sg m) m) (fun i => [.int n, nats s, .int i]) at_ (e := .x 0) (res := [.int n, nats s, .int at_]) (fun i hi => Evt.all fun m => ?_) (Evt.all fun m => ?_) (by decide)
  · refine Is.of e41 (hh.mp2 h1 fun m q1 q2 => ?_)
    have q2' : loopEv (L41_0 (ev Try.prog sg m) m) m [.int n, nats s, .int 0] = some (.x 0, [.int n, nats s, .int at_]) := q2
    have e0 : nats (insN n s) = .list ((s.map fun p : Nat => PV.int (p : Int)).take at_ ++ [PV.int n] ++ (s.map fun p : Nat => PV.int (p : Int)).drop at_) := by
      rw [he]
      simp [List.map_append, List.map_take, List.map_drop]
    rw [e0]
    have hdl : ((s.map fun p : Nat => PV.int (p : Int)).drop at_).take (s.length - at_) = (s.map fun p : Nat => PV.int (p : Int)).drop at_ := List.take_of_length_le (by rw [List.length_drop, hnl]; exact Nat.le_refl _)
    have hat : ((at_ : Int)).toNat = at_ := by omega
    have hsl : ((s.length : Int)).toNat = s.length := by omega
    have c1 : leI 0 (at_ : Int) = true := leT (by omega)
    have c2 : leI (at_ : Int) s.length = true := leT (by omega)
    have c3 : geI (at_ : Int) 0 = true := geT (by omega)
    have c4 : leI (s.length : Int) s.length = true := leT (by omega)
    have c5 : geI 0 0 = true := rfl
    have c6 : leN (([] : List PV).length + ((s.map fun p : Nat => PV.int (p : Int)).take at_).length) 17592186044416 = true := leNT (by rw [List.length_take, hnl, List.length_nil]; omega)
    have c7 : leN (((s.map fun p : Nat => PV.int (p : Int)).take at_).length + [PV.int n].length) 17592186044416 = true := leNT (by rw [List.length_take, hnl]; simp; omega)
    have c8 : leN (((s.map fun p : Nat => PV.int (p : Int)).take at_ ++ [PV.int n]).length + ((s.map fun p : Nat => PV.int (p : Int)).drop at_).length) 17592186044416 = true := leNT (by rw [List.length_append, List.length_take, List.length_drop, hnl]; simp; omega)
    simp only [F41, nth_0, nth_1, nth_2, q1, Option.bind_some, toBool_bool, iff_false', q2', thenE_some, passB_same, thenN_n, toInt_int, toList_list, hnl, c5, c1, c2, c3, c4, iff_true', hat, hsl, Int.toNat_zero, Nat.sub_zero, List.drop_zero, c6, List.nil_append, c7, hdl, c8]
  · have hg := hta i hi
    have hn1 := nth_gp (P := s) (i := i) (by omega)
    have c1 : ltI (i : Int) s.length = true := ltT (by omega)
    have c2 : geI (i : Int) 0 = true := geT (by omega)
    have c3 : ltI (gp s i : Int) n = true := ltT (by omega)
    have w1 : IntKind.i64.wrap ((i : Int) + 1) = ((i + 1 : Nat) : Int) := by rw [wrap64 (by omega) (by omega)]; omega
    have hk' : ((i : Int)).toNat = i := by omega
    simp only [L41_0, nth_0, nth_1, nth_2, toInt_int, toList_list, toBool_bool, hnl, c1, beq_self_eq_true, selB_true, c2, iff_true', hk', hn1, Option.bind_some, c3, w1]
  · by_cases hlt : at_ < s.length
    · have hg := hte hlt
      have hn1 := nth_gp (P := s) (i := at_) (by omega)
      have c1 : ltI (at_ : Int) s.length = true := ltT (by omega)
      have c2 : geI (at_ : Int) 0 = true := geT (by omega)
      have c3 : ltI (gp s at_ : Int) n = false := ltF (by omega)
      have hk' : ((at_ : Int)).toNat = at_ := by omega
      simp only [L41_0, nth_0, nth_1, nth_2, toInt_int, toList_list, toBool_bool, hnl, c1, beq_self_eq_true, selB_true, c2, iff_true', iff_false', hk', hn1, Option.bind_some, c3]
    · have c1 : ltI (at_ : Int) s.length = false := ltF (by omega)
      simp [L41_0, hnl, c1]
theorem insS {s : List Nat} (hs : s.length ≤ 1048576) {n : Nat} (hn : n ∉ s) (hn2 : n ≤ 1048576) : Rn 53 [nats s, .int n] [nats (insN n s)] :=
  Is.of e53 ((withS hs hn hn2).mp fun m q => by simp only [F53, nth_0, nth_1, q, Option.bind_some])
section
variable {W R : List Int} {half base next : Int} {P fin : List Nat}
theorem insTake {fin : List Nat} (hn : fin.Nodup) (k : Nat) : ((fin.take k).foldl (fun s n => insN n s) []).length = (fin.take k).length ∧ (∀ n, n ∈ (fin.take k).foldl (fun s n => insN n s) [] → n ∈ fin.take k) := by
  obtain ⟨h1, _⟩ := foldIns (fin.take k) [] List.Pairwise.nil
  rw [List.nil_append] at h1
  exact ⟨h1.length_eq, fun n h => h1.subset h⟩
theorem reachLoop (hn : fin.Nodup) (hb : ∀ p, p ∈ fin → p ≤ 6000) (hfl : fin.length ≤ 3000) :
    Evt fun n => loopEv (L26_0 (ev Try.prog sg n) n) n [.int 0, nats fin, .list []] = some (.x 0, [nats (insAll fin)]) := by
  have hnl := natsLen fin
  have h1 := loop_run (body := fun n => L26_0 (ev Try.prog sg n) n) (fun k => [.int k, nats fin, nats ((fin.take k).foldl (fun s n => insN n s) [])]) fin.length (e := .x 0) (res := [nats (insAll fin)]) (fun k hk => ?_) (Evt.all fun n => ?_) (by decide)
  · exact h1
  · obtain ⟨l1, l2⟩ := insTake hn k
    have hn1 := nth_gp hk
    have hkl : (fin.take k).length ≤ 3000 := by rw [List.length_take]; omega
    have hb1 := hb _ (gp_mem hk)
    have hin := insS (s := (fin.take k).foldl (fun s n => insN n s) []) (n := gp fin k) (by omega) (fun hm => gp_new hn hk (l2 _ hm)) (by omega)
    rw [take_gp hk, List.foldl_append]
    have c1 : ltI (k : Int) fin.length = true := ltT (by omega)
    have c2 : geI (k : Int) 0 = true := geT (by omega)
    have w1 : IntKind.i64.wrap ((k : Int) + 1) = ((k + 1 : Nat) : Int) := by rw [wrap64 (by omega) (by omega)]; omega
    have hk' : ((k : Int)).toNat = k := by omega
    refine hin.mp fun n q => ?_
    simp only [L26_0, nth_0, nth_1, nth_2, toInt_int, toList_list, hnl, c1, c2, iff_true', hk', hn1, q, Option.bind_some, w1, List.foldl_cons, List.foldl_nil]
  · rw [List.take_length]
    have c1 : ltI (fin.length : Int) fin.length = false := ltF (by omega)
    simp only [L26_0, nth_0, nth_1, nth_2, toInt_int, toList_list, hnl, c1, iff_false']
    rfl
theorem sortI (hfl : fin.length ≤ 3000) : Rn 47 [nats fin] [nats (insAll fin)] := orc_is (s := sortSig 3) rfl rfl (by
  have hnl := natsLen fin
  show (if Nat.ble (fin.map fun p : Nat => PV.int (p : Int)).length 140737488355328 = true then some [PV.list (sortL (fin.map fun p : Nat => PV.int (p : Int)))] else none) = some [nats (insAll fin)]
  rw [if_pos (Nat.ble_eq_true_of_le (by rw [hnl]; omega)), sort_nats])
def reachB (W : List Int) (half base next : Int) (R : List Int) : List Nat := if rootsB W half base next R then insAll (bfs W (plcs W base next).length 0 (addAll [] R)) else []
theorem reachIS (hW : W.length ≤ 1048576) (hW2 : ∀ w, w ∈ W → -9223372036854775808 ≤ w ∧ w < 9223372036854775808) (hR : R.length ≤ 1048576) :
    Rn 27 [heapV W half base next, words R] [nats (reachB W half base next R)] ∧ Rn 26 [heapV W half base next, words R] [nats (reachB W half base next R)] ∧ (reachB W half base next R).length ≤ 3000 ∧ ∀ p, p ∈ reachB W half base next R → p ≤ 6000 := by
  have ri := rootsI (half := half) (base := base) (next := next) hW hR
  have rs := rightS (half := half) (base := base) (next := next) hW hW2 hR
  have er : (heapB W half base next && allP (plcs W base next) R) = rootsB W half base next R := rfl
  rw [er] at rs
  cases hc : rootsB W half base next R with
  | false =>
    rw [hc] at ri rs
    have e0 : reachB W half base next R = [] := by simp [reachB, hc]
    rw [e0]
    refine ⟨Is.of e27 (ri.mp fun n q => ?_), Is.of e26 (rs.mp fun n q => ?_), by simp, by simp⟩
    · simp only [F27, nth_0, nth_1, q, Option.bind_some, toBool_bool, Bool.not_false, iff_true']
      rfl
    · simp only [F26, nth_0, nth_1, q, Option.bind_some, toBool_bool, Bool.not_false, iff_true']
      rfl
  | true =>
    have hcc := hc
    simp only [rootsB, Bool.and_eq_true] at hcc
    have hs := sok hcc.1
    have hRP : ∀ x, x ∈ R → there (plcs W base next) x = true := List.all_eq_true.1 hcc.2
    obtain ⟨f1, f2, f3, f4⟩ := fin_ok hs hRP
    rw [hc] at ri rs
    have hm := metI hs hW hRP hR
    have ho := orderS hs hW hRP hR
    have e0 : reachB W half base next R = insAll (bfs W (plcs W base next).length 0 (addAll [] R)) := by simp [reachB, hc]
    rw [e0]
    have hb : ∀ p, p ∈ bfs W (plcs W base next).length 0 (addAll [] R) → p ≤ 6000 := fun p hp => by
      have h1 := (hs.mem p (f1.sub p hp)).1
      have := hs.pre.rng
      omega
    generalize bfs W (plcs W base next).length 0 (addAll [] R) = fin at *
    have hl := reachLoop f1.nodup hb f4
    obtain ⟨h1, _⟩ := foldIns fin [] List.Pairwise.nil
    rw [List.nil_append] at h1
    refine ⟨Is.of e27 (ri.mp3 hm (sortI f4) fun n q1 q2 q3 => ?_), Is.of e26 (rs.mp3 ho hl fun n q1 q2 q3 => ?_), ?_, fun p hp => hb p (h1.subset hp)⟩
    · simp only [F27, nth_0, nth_1, q1, q2, q3, Option.bind_some, toBool_bool, Bool.not_true, iff_false']
    · simp only [F26, nth_0, nth_1, q1, q2, q3, Option.bind_some, toBool_bool, Bool.not_true, iff_false', thenE_some, passB_same, thenN_n]
    · rw [show (insAll fin).length = fin.length from h1.length_eq]; exact f4
end
end Go.Proofs.Ythmhgnnaihkjaaa.GFnExactReach
