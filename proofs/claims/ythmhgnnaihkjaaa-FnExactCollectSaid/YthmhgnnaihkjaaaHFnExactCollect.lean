/- What functions of the program and of the reference come to, for the law FnExactCollect. Each under the conditions that it names. -/
import Derived.Test.YthmhgnnaihkjaaaEFnExactCollect
namespace Go.Proofs.Ythmhgnnaihkjaaa.GFnExactCollect
open Go Go.Rsc Go.Proofs.Ythmhgnnaihkjaaa
set_option maxRecDepth 100000
set_option linter.unusedVariables false
set_option linter.unusedSimpArgs false
/-! ### Where the program puts what it has met -/
def plL (W : List Int) : Nat → List Nat → List PV
  | _, [] => []
  | b, p :: l => .agg [.int (p : Int), .int (b : Int)] :: plL W (b + 1 + mny (gw W p)) l
theorem nowL_gp (W : List Int) : ∀ (l : List Nat) (b k : Nat), k < l.length → gp (nowL W b l) k = b + sumB W (l.take k)
  | p :: l, b, 0, _ => by simp [nowL, gp, sumB]
  | p :: l, b, k + 1, h => by
    have := nowL_gp W l (b + 1 + mny (gw W p)) k (by simpa using h)
    simp only [List.take_succ_cons, sumB]
    rw [show gp (nowL W b (p :: l)) (k + 1) = gp (nowL W (b + 1 + mny (gw W p)) l) k by simp [nowL, gp], this]
    omega
theorem pl_get {W : List Int} {p : Nat} : ∀ {l : List Nat} {b : Nat}, p ∈ l → mgetL (.int 0) (p : Int) (plL W b l) = .int (gp (nowL W b l) (ix l p) : Int)
  | q :: l, b, h => by
    show (if ((PV.agg [.int (q : Int), .int (b : Int)]).fld 0).toInt = (p : Int) then (PV.agg [.int (q : Int), .int (b : Int)]).fld 1 else mgetL (.int 0) (p : Int) (plL W (b + 1 + mny (gw W q)) l)) = _
    by_cases e : q = p
    · subst e
      simp [ix, nowL, gp]
    · have hm : p ∈ l := (List.mem_cons.1 h).resolve_left fun e2 => e e2.symm
      have e2 : ¬ (q : Int) = (p : Int) := by omega
      rw [if_neg (by simpa using e2), pl_get hm]
      simp [ix, e, nowL, gp]
theorem pl_set {W : List Int} {p : Nat} : ∀ (l : List Nat) (b : Nat), p ∉ l → msetL (p : Int) (.int ((b + sumB W l : Nat) : Int)) (plL W b l) = plL W b (l ++ [p])
  | [], b, _ => by simp [plL, sumB, msetL]
  | q :: l, b, h => by
    have e : ¬ (q : Int) = (p : Int) := fun e => h (by rw [show p = q by omega]; simp)
    show (if ((PV.agg [.int (q : Int), .int (b : Int)]).fld 0).toInt = (p : Int) then _ else PV.agg [.int (q : Int), .int (b : Int)] :: msetL (p : Int) (.int ((b + sumB W (q :: l) : Nat) : Int)) (plL W (b + 1 + mny (gw W q)) l)) = _
    rw [if_neg (by simpa using e)]
    have := pl_set (W := W) (p := p) l (b + 1 + mny (gw W q)) (fun hm => h (by simp [hm]))
    rw [show b + sumB W (q :: l) = b + 1 + mny (gw W q) + sumB W l by simp [sumB]; omega, this]
    rfl
def zw (A : List Int) (n : Nat) : List Int := A ++ List.replicate (n - A.length) 0
theorem zw_len {A : List Int} {n : Nat} (h : A.length ≤ n) : (zw A n).length = n := by simp [zw]; omega
theorem zw_set {A : List Int} {n : Nat} (h : A.length < n) (x : Int) : ((zw A n).map PV.int).set A.length (.int x) = (zw (A ++ [x]) n).map PV.int := by
  unfold zw
  rw [← List.map_set, List.set_append_right _ _ (Nat.le_refl _), Nat.sub_self]
  obtain ⟨m, hm⟩ : ∃ m, n - A.length = m + 1 := ⟨n - A.length - 1, by omega⟩
  rw [hm, show n - (A ++ [x]).length = m by simp; omega, List.replicate_succ]
  simp
theorem gp_new {l : List Nat} (h : l.Nodup) {k : Nat} (hk : k < l.length) : gp l k ∉ l.take k := by
  have h1 : (l.take (k + 1)).Nodup := (List.take_sublist _ _).nodup h
  rw [take_gp hk, List.nodup_append] at h1
  exact fun hm => h1.2.2 _ hm _ (by simp) rfl
theorem gp_take {l : List Nat} {t k : Nat} (h : t < k) : gp (l.take k) t = gp l t := by
  simp [gp, List.getD_eq_getElem?_getD, List.getElem?_take, h]
theorem ix_gp {l : List Nat} (h : l.Nodup) {k : Nat} (hk : k < l.length) : ix l (gp l k) = k :=
  ix_eq hk rfl fun t ht e => gp_new h hk (by
    rw [← e, ← gp_take (l := l) ht]
    exact gp_mem (by simp; omega))
abbrev zV : PV := .agg [.list [], .int 0, .int 0, .int 0]
abbrev wV (A : List Int) (n : Nat) (half b nx : Int) : PV := heapV (zw A n) half b nx
theorem refWI {p : Int} (h0 : 0 ≤ p) (h1 : p ≤ 6000) : Rn 39 [.int p] [.int (2 * p)] := by
  refine Is.of e39 ((is54 p 0 6000).mp fun n q => ?_)
  rw [show okR p 0 6000 = true by simp [okR]; omega] at q
  simp (disch := omega) [F39, q, wrap64]
section
variable {W : List Int} {half base next : Int} {P fin : List Nat} {b : Nat}
theorem placesI (h : SOk W half base next P) (hW : W.length ≤ 1048576) (hf : Way P fin) (hb : (b : Int) + half ≤ 6000) (rt o1 z : PV) :
    Evt fun n => loopEv (L10_0 (ev Try.prog sg n) n) n [.int 0, .int fin.length, .int b, rt, nats fin, .list [], heapV W half base next, o1, z] = some (.x 0, [.int (b + sumB W fin : Nat), nats fin, rt, .list (plL W b fin), heapV W half base next, o1, z]) := by
  have hnl := natsLen fin
  have hpl := h.plen
  have hfl := len_sub hf.nodup hf.sub
  have hs0 := sum_sub (W := W) hf.nodup hf.sub
  have hs1 := h.sum
  have h1 := loop_run (body := fun n => L10_0 (ev Try.prog sg n) n) (fun k => [.int k, .int fin.length, .int (b + sumB W (fin.take k) : Nat), rt, nats fin, .list (plL W b (fin.take k)), heapV W half base next, o1, z]) fin.length (e := .x 0)
    (res := [.int (b + sumB W fin : Nat), nats fin, rt, .list (plL W b fin), heapV W half base next, o1, z]) (fun k hk => ?_) (Evt.all fun n => ?_) (by decide)
  · exact h1
  · have hpm : gp fin k ∈ P := hf.sub _ (gp_mem hk)
    have hn := nth_gp hk
    have hs := sum_take_drop W fin k
    have hd := drop_gp hk
    rw [hd] at hs
    simp only [sumB] at hs
    have ht := take_gp hk
    have hss : sumB W (fin.take (k + 1)) = sumB W (fin.take k) + (1 + mny (gw W (gp fin k))) := by rw [ht, sumB_append]; simp [sumB]
    have hset := pl_set (W := W) (fin.take k) b (gp_new hf.nodup hk)
    rw [← ht] at hset
    have hkl := kids_len W (gp fin k)
    have c1 : ltI (k : Int) fin.length = true := ltT (by omega)
    have c2 : geI (k : Int) 0 = true := geT (by omega)
    have w1 : IntKind.i64.wrap ((k : Int) + 1) = ((k + 1 : Nat) : Int) := by rw [wrap64 (by omega) (by omega)]; omega
    have w2 : IntKind.i64.wrap (((b + sumB W (fin.take k) : Nat) : Int) + IntKind.i64.wrap (1 + (mny (gw W (gp fin k)) : Int))) = ((b + sumB W (fin.take (k + 1)) : Nat) : Int) := by
      rw [wrap64 (x := 1 + (mny (gw W (gp fin k)) : Int)) (by omega) (by omega), wrap64 (by omega) (by omega), hss]; omega
    have hk' : ((k : Int)).toNat = k := by omega
    refine (kidsAtI h hW hpm).mp fun n q => ?_
    simp only [L10_0, nth_0, nth_1, nth_2, nth_3, nth_4, nth_5, nth_6, nth_7, nth_8, toInt_int, toList_list, hnl, c1, c2, iff_true', hk', hn, q, Option.bind_some, wordsLen, hkl, hset, w1, w2]
  · rw [List.take_length]
    have c1 : ltI (fin.length : Int) fin.length = false := ltF (by omega)
    simp only [L10_0, nth_0, nth_1, nth_2, nth_3, nth_4, nth_5, nth_6, nth_7, nth_8, toInt_int, c1, iff_false']
theorem movedI (hf : Way P fin) (h : SOk W half base next P) (hb : (b : Int) + half ≤ 6000) {x : Int} (hx : inW fin x) (ht : there P x = true) :
    Rn 37 [.int x, .list (plL W b fin)] [.int (mv W b fin x), .list (plL W b fin)] := by
  by_cases he : x % 2 = 0
  · obtain ⟨x0, _⟩ := there_ev ht he
    have hm := hx he
    have hg := pl_get (W := W) (b := b) hm
    rw [show (((x / 2).toNat : Nat) : Int) = x / 2 by omega] at hg
    obtain ⟨i1, _, _⟩ := ix_lt hm
    have hle := nowL_le (W := W) fin b (ix fin (x / 2).toNat) (by rw [nowL_len]; exact i1)
    have hs0 := sum_sub (W := W) hf.nodup hf.sub
    have hs1 := h.sum
    have hmv : mv W b fin x = 2 * (gp (nowL W b fin) (ix fin (x / 2).toNat) : Int) := by simp [mv, he]
    rw [hmv]
    generalize gp (nowL W b fin) (ix fin (x / 2).toNat) = y at hg hle
    refine Is.of e37 ((refI x).mp3 (wrefI x) (refWI (p := (y : Int)) (by omega) (by omega)) fun n q1 q2 q3 => ?_)
    rw [eqT he] at q1
    simp only [F37, nth_0, nth_1, q1, q2, toInt_int, toList_list, toBool_bool, iff_true', Option.bind_some, hg, q3]
  · refine Is.of e37 ((refI x).mp fun n q1 => ?_)
    rw [eqF he] at q1
    simp only [F37, nth_0, nth_1, q1, toBool_bool, iff_false', Option.bind_some, mv, he, if_false]
theorem innerI (h : SOk W half base next P) (hf : Way P fin) (hb : (b : Int) + half ≤ 6000) {p : Nat} (hk : ∀ x, x ∈ kids W p → inW fin x ∧ there P x = true) {A : List Int} {n : Nat} (hA : A.length + (1 + mny (gw W p)) ≤ n) (hn : n ≤ 6000) (bb nx : Int) (y4 y5 y6 y7 y8 z : PV) :
    Evt fun N => loopEv (L10_1 (ev Try.prog sg N) N) N [.int 0, .int (kids W p).length, words (kids W p), .int A.length, y4, y5, y6, y7, y8, wV (A ++ [gw W p]) n half bb nx, z, .list (plL W b fin)] = some (.x 4, [y4, y5, y6, y7, y8, wV (A ++ blkM W b fin p) n half bb nx, z, .list (plL W b fin)]) := by
  have hkl := kids_len W p
  have hml := mny_lt (gw W p)
  have h1 := loop_run (body := fun N => L10_1 (ev Try.prog sg N) N) (fun k => [.int k, .int (kids W p).length, words (kids W p), .int A.length, y4, y5, y6, y7, y8, wV (A ++ gw W p :: ((kids W p).take k).map (mv W b fin)) n half bb nx, z, .list (plL W b fin)]) (kids W p).length (e := .x 4)
    (res := [y4, y5, y6, y7, y8, wV (A ++ blkM W b fin p) n half bb nx, z, .list (plL W b fin)]) (fun k hk' => ?_) (Evt.all fun N => ?_) (by decide)
  · exact h1
  · have hn1 := nth_gw hk'
    have hm : gw (kids W p) k ∈ kids W p := by simp [gw, List.getD_eq_getElem?_getD, hk']
    obtain ⟨g1, g2⟩ := hk _ hm
    have e1 : (kids W p).take (k + 1) = (kids W p).take k ++ [gw (kids W p) k] := by
      rw [List.take_add_one, List.getElem?_eq_getElem hk']
      simp [gw, List.getD_eq_getElem?_getD, hk']
    have e2 : A ++ gw W p :: ((kids W p).take (k + 1)).map (mv W b fin) = (A ++ gw W p :: ((kids W p).take k).map (mv W b fin)) ++ [mv W b fin (gw (kids W p) k)] := by rw [e1]; simp
    have hl : (A ++ gw W p :: ((kids W p).take k).map (mv W b fin)).length = A.length + 1 + k := by simp; omega
    rw [e2]
    generalize A ++ gw W p :: ((kids W p).take k).map (mv W b fin) = A1 at hl
    have hset := zw_set (A := A1) (n := n) (by omega) (mv W b fin (gw (kids W p) k))
    have hzl : ((zw A1 n).map PV.int).length = n := by rw [List.length_map]; exact zw_len (by omega)
    have c1 : ltI (k : Int) (kids W p).length = true := ltT (by omega)
    have c2 : geI (k : Int) 0 = true := geT (by omega)
    have w1 : IntKind.i64.wrap ((k : Int) + 1) = ((k + 1 : Nat) : Int) := by rw [wrap64 (by omega) (by omega)]; omega
    have w2 : IntKind.i64.wrap (IntKind.i64.wrap ((A.length : Int) + 1) + (k : Int)) = (A1.length : Int) := by
      rw [wrap64 (x := (A.length : Int) + 1) (by omega) (by omega), wrap64 (by omega) (by omega), hl]; omega
    have c3 : geI (A1.length : Int) 0 = true := geT (by omega)
    have c4 : ltI (A1.length : Int) n = true := ltT (by omega)
    have hk'' : ((k : Int)).toNat = k := by omega
    have hA1 : ((A1.length : Int)).toNat = A1.length := by omega
    refine (movedI hf h hb g1 g2).mp fun N q => ?_
    simp only [L10_1, nth_0, nth_1, nth_2, nth_3, nth_4, nth_5, nth_6, nth_7, nth_8, nth_9, nth_10, nth_11, toInt_int, toList_list, wordsLen, c1, c2, iff_true', hk'', hn1, q, Option.bind_some, w1, w2, c3, fld_agg, hzl, c4, hA1, setFld_agg, List.set_cons_zero, hset]
  · rw [List.take_length]
    have c1 : ltI ((kids W p).length : Int) (kids W p).length = false := ltF (by omega)
    simp only [L10_1, nth_0, nth_1, nth_2, nth_3, nth_4, nth_5, nth_6, nth_7, nth_8, nth_9, nth_10, nth_11, toInt_int, c1, iff_false']
    rfl
theorem copyLoop (h : SOk W half base next P) (hW : W.length ≤ 1048576) (hf : Way P fin) {n : Nat} (hb : (b : Int) + half ≤ n) (hn : n ≤ 6000) (hk : ∀ q, q ∈ fin → ∀ x, x ∈ kids W q → inW fin x) (bb nx : Int) (rt z : PV) :
    Evt fun N => loopEv (L10_2 (ev Try.prog sg N) N) N [.int 0, .int fin.length, rt, nats fin, heapV W half base next, wV (List.replicate b 0) n half bb nx, z, .list (plL W b fin)] = some (.x 2, [rt, wV (List.replicate b 0 ++ blkF W b fin fin) n half bb nx, z, .list (plL W b fin)]) := by
  have hnl := natsLen fin
  have hpl := h.plen
  have hfl := len_sub hf.nodup hf.sub
  have hs0 := sum_sub (W := W) hf.nodup hf.sub
  have hs1 := h.sum
  have h1 := loop_run (body := fun N => L10_2 (ev Try.prog sg N) N) (fun k => [.int k, .int fin.length, rt, nats fin, heapV W half base next, wV (List.replicate b 0 ++ blkF W b fin (fin.take k)) n half bb nx, z, .list (plL W b fin)]) fin.length (e := .x 2)
    (res := [rt, wV (List.replicate b 0 ++ blkF W b fin fin) n half bb nx, z, .list (plL W b fin)]) (fun k hk' => ?_) (Evt.all fun N => ?_) (by decide)
  · have e0 : wV (List.replicate b 0 ++ blkF W b fin (fin.take 0)) n half bb nx = wV (List.replicate b 0) n half bb nx := by simp [blkF]
    rw [e0] at h1
    exact h1
  · have hpm : gp fin k ∈ P := hf.sub _ (gp_mem hk')
    have hn1 := nth_gp hk'
    have hs := sum_take_drop W fin k
    have hd := drop_gp hk'
    rw [hd] at hs
    simp only [sumB] at hs
    have ht := take_gp hk'
    have hbf : List.replicate b 0 ++ blkF W b fin (fin.take (k + 1)) = (List.replicate b 0 ++ blkF W b fin (fin.take k)) ++ blkM W b fin (gp fin k) := by rw [ht]; simp [blkF]
    have hAl : (List.replicate b (0 : Int) ++ blkF W b fin (fin.take k)).length = b + sumB W (fin.take k) := by simp [blkF_len]
    rw [hbf]
    generalize List.replicate b (0 : Int) ++ blkF W b fin (fin.take k) = A at hAl
    have hg := pl_get (W := W) (b := b) (gp_mem hk')
    rw [ix_gp hf.nodup hk', nowL_gp W fin b k hk', ← hAl] at hg
    obtain ⟨hm1, _⟩ := h.mem _ hpm
    have hWl := wordsLen W
    have hzl : ((zw A n).map PV.int).length = n := by rw [List.length_map]; exact zw_len (by omega)
    have hnw := nth_gw (W := W) (i := gp fin k) (by omega)
    have hset := zw_set (A := A) (n := n) (by omega) (gw W (gp fin k))
    have hin := innerI h hf (b := b) (by omega) (p := gp fin k) (fun x hx => ⟨hk _ (gp_mem hk') x hx, h.kid _ hpm x hx⟩) (A := A) (n := n) (by omega) hn bb nx (.int k) (.int fin.length) rt (nats fin) (heapV W half base next) z
    have c1 : ltI (k : Int) fin.length = true := ltT (by omega)
    have c2 : geI (k : Int) 0 = true := geT (by omega)
    have c3 : geI (gp fin k : Int) 0 = true := geT (by omega)
    have c4 : ltI (gp fin k : Int) W.length = true := ltT (by omega)
    have c5 : geI (A.length : Int) 0 = true := geT (by omega)
    have c6 : ltI (A.length : Int) n = true := ltT (by omega)
    have w1 : IntKind.i64.wrap ((k : Int) + 1) = ((k + 1 : Nat) : Int) := by rw [wrap64 (by omega) (by omega)]; omega
    have hk'' : ((k : Int)).toNat = k := by omega
    have hA1 : ((A.length : Int)).toNat = A.length := by omega
    have hp1 : ((gp fin k : Int)).toNat = gp fin k := by omega
    refine (kidsAtI h hW hpm).mp2 hin fun N q1 q2 => ?_
    simp only [L10_2, nth_0, nth_1, nth_2, nth_3, nth_4, nth_5, nth_6, nth_7, toInt_int, toList_list, fld_agg, hnl, hWl, c1, c2, iff_true', hk'', hn1, c3, c4, hg, c5, hzl, c6, q1, Option.bind_some, hp1, hnw, hA1, setFld_agg, List.set_cons_zero, hset, wordsLen, q2, thenE_some, passB_same, thenN_n, w1]
  · rw [List.take_length]
    have c1 : ltI (fin.length : Int) fin.length = false := ltF (by omega)
    simp only [L10_2, nth_0, nth_1, nth_2, nth_3, nth_4, nth_5, nth_6, nth_7, toInt_int, c1, iff_false']
theorem ownLoop (h : SOk W half base next P) (hf : Way P fin) (hb : (b : Int) + half ≤ 6000) {R : List Int} (hR : ∀ x, x ∈ R → inW fin x ∧ there P x = true) (hRl : R.length ≤ 1048576) (o1 z : PV) :
    Evt fun N => loopEv (L10_3 (ev Try.prog sg N) N) N [.int 0, .int R.length, words R, .list [], o1, z, .list (plL W b fin)] = some (.x 6, [words (R.map (mv W b fin)), o1, z]) := by
  have h1 := loop_run (body := fun N => L10_3 (ev Try.prog sg N) N) (fun k => [.int k, .int R.length, words R, words ((R.take k).map (mv W b fin)), o1, z, .list (plL W b fin)]) R.length (e := .x 6)
    (res := [words (R.map (mv W b fin)), o1, z]) (fun k hk => ?_) (Evt.all fun N => ?_) (by decide)
  · exact h1
  · have hn1 := nth_gw hk
    have hm : gw R k ∈ R := by simp [gw, List.getD_eq_getElem?_getD, hk]
    obtain ⟨g1, g2⟩ := hR _ hm
    have e1 : R.take (k + 1) = R.take k ++ [gw R k] := by
      rw [List.take_add_one, List.getElem?_eq_getElem hk]
      simp [gw, List.getD_eq_getElem?_getD, hk]
    have e2 : ((R.take k).map (mv W b fin)).map PV.int ++ [PV.int (mv W b fin (gw R k))] = ((R.take (k + 1)).map (mv W b fin)).map PV.int := by rw [e1]; simp
    have hl : (((R.take k).map (mv W b fin)).map PV.int).length ≤ 1048576 := by simp; omega
    have c1 : ltI (k : Int) R.length = true := ltT (by omega)
    have c2 : geI (k : Int) 0 = true := geT (by omega)
    have w1 : IntKind.i64.wrap ((k : Int) + 1) = ((k + 1 : Nat) : Int) := by rw [wrap64 (by omega) (by omega)]; omega
    have hk'' : ((k : Int)).toNat = k := by omega
    have c3 : leN ((((R.take k).map (mv W b fin)).map PV.int).length + [PV.int (mv W b fin (gw R k))].length) 17592186044416 = true := leNT (by simp only [List.length_cons, List.length_nil]; omega)
    refine (movedI hf h hb g1 g2).mp fun N q => ?_
    simp only [L10_3, nth_0, nth_1, nth_2, nth_3, nth_4, nth_5, nth_6, toInt_int, toList_list, wordsLen R, c1, c2, iff_true', hk'', hn1, q, Option.bind_some, c3, e2, w1]
  · rw [List.take_length]
    have c1 : ltI (R.length : Int) R.length = false := ltF (by omega)
    simp only [L10_3, nth_0, nth_1, nth_2, nth_3, nth_4, nth_5, nth_6, toInt_int, c1, iff_false']
/-- The program's move, of what is right. -/
theorem collectI (h : SOk W half base next P) (hW : W.length ≤ 1048576) {R : List Int} (hR : ∀ x, x ∈ R → there P x = true) (hRl : R.length ≤ 1048576) {fin : List Nat} (hfin : fin = bfs W P.length 0 (addAll [] R)) (hf : Way P fin) (hk : ∀ q, q ∈ fin → ∀ x, x ∈ kids W q → inW fin x) (hRf : ∀ x, x ∈ R → inW fin x) (hok : rootsB W half base next R = true) :
    Rn 10 [heapV W half base next, words R] [toV (List.replicate (half - base).toNat 0 ++ blkF W (half - base).toNat fin fin) (2 * half).toNat half (half - base), words (R.map (mv W (half - base).toNat fin))] := by
  obtain ⟨g1, g2, g3, g4⟩ := h.pre
  have hbb : (((half - base).toNat : Nat) : Int) = half - base := by omega
  have hnn : (2 * half).toNat = W.length := by omega
  have hr := rootsI (half := half) (base := base) (next := next) (R := R) hW hRl
  rw [hok] at hr
  have hm := metI h hW hR hRl
  rw [← hfin] at hm
  generalize hb' : (half - base).toNat = b at *
  have hpl := placesI h hW hf (b := b) (by omega) (words R) (.agg [.list (List.replicate W.length (PV.int 0)), .int half, .int (half - base), .int 0]) zV
  have hcp := copyLoop h hW hf (b := b) (n := W.length) (by omega) (by omega) hk (half - base) ((b + sumB W fin : Nat) : Int) (words R) zV
  have how := ownLoop h hf (b := b) (by omega) (R := R) (fun x hx => ⟨hRf x hx, hR x hx⟩) hRl (wV (List.replicate b 0 ++ blkF W b fin fin) W.length half (half - base) ((b + sumB W fin : Nat) : Int)) zV
  have hz0 : (List.replicate W.length (PV.int 0)) = (zw (List.replicate b 0) W.length).map PV.int := by
    unfold zw
    rw [List.length_replicate, List.replicate_append_replicate, List.map_replicate, show b + (W.length - b) = W.length by omega]
  have hal : (List.replicate b (0 : Int) ++ blkF W b fin fin).length = b + sumB W fin := by simp [blkF_len]
  have htv : toV (List.replicate b 0 ++ blkF W b fin fin) (2 * half).toNat half (half - base) = wV (List.replicate b 0 ++ blkF W b fin fin) W.length half (half - base) ((b + sumB W fin : Nat) : Int) := by
    unfold toV wV zw
    rw [hnn, hal]
  rw [htv]
  have w0 : IntKind.i64.wrap (half - base) = (b : Int) := by rw [hbb]; exact wrap64 (by omega) (by omega)
  have hWl := wordsLen W
  have hnl := natsLen fin
  have hRl' := wordsLen R
  have c1 : geI (W.length : Int) 0 = true := geT (by omega)
  have c2 : leI (W.length : Int) W.length = true := leT (by omega)
  have c3 : leI (W.length : Int) 17592186044416 = true := leT (by omega)
  have hWt : ((W.length : Int)).toNat = W.length := by omega
  rw [← hbb] at hpl hcp how
  refine Is.of e10 (Evt.and (hr.and hm) (hpl.and (hcp.and how)) |>.mp fun N q => ?_)
  obtain ⟨⟨q1, q2⟩, q3, q4, q5⟩ := q
  rw [hz0] at q3
  rw [← hbb]
  simp only [F10, nth_0, nth_1, nth_2, nth_3, nth_4, nth_5, nth_6, q1, q2, Option.bind_some, toBool_bool, Bool.not_true, iff_false', fld_agg, toList_list, toInt_int, hWl, c1, c2, c3, iff_true', w0, hnl, hWt, hz0, q3, thenE_some, passB_same, thenN_n, setFld_agg, List.set_cons_zero, List.set_cons_succ, q4, hRl', q5]
end
end Go.Proofs.Ythmhgnnaihkjaaa.GFnExactCollect
