/- What functions of the program and of the reference come to, for the law FnMoved. Each under the conditions that it names. -/
import Derived.Test.YthmhgnnaihkjaaaGreatDoorDFnMoved
namespace Go.Proofs.YthmhgnnaihkjaaaGreatDoor.GFnMoved
open Go Go.Rsc Go.Proofs.YthmhgnnaihkjaaaGreatDoor
set_option maxRecDepth 100000
set_option linter.unusedVariables false
set_option linter.unusedSimpArgs false
/-! ### Where the program puts what it has met -/
def plL (W : List Int) : Nat → List Nat → List PV
  | _, [] => []
  | b, p :: l => .agg [.int (p : Int), .int (b : Int)] :: plL W (b + 1 + mny (gw W p)) l
theorem nowL_gp (W : List Int) : ∀ (l : List Nat) (b k : Nat), k < l.length → gp (nowL W b l) k = b + sumB W (l.take k)
  | p :: l, b, 0, _ => by simp [nowL, gp, sumB]
  | p :: l, b, k + 1, h => by
    have := nowL_gp W l (b + 1 + mny (gw W p)) k (by simpa using h)
    simp only [List.take_succ_cons, sumB]
    rw [show gp (nowL W b (p :: l)) (k + 1) = gp (nowL W (b + 1 + mny (gw W p)) l) k by simp [nowL, gp], this]
    omega
theorem pl_get {W : List Int} {p : Nat} : ∀ {l : List Nat} {b : Nat}, p ∈ l → mgetL (.int 0) (p : Int) (plL W b l) = .int (gp (nowL W b l) (ix l p) : Int)
  | q :: l, b, h => by
    show (if ((PV.agg [.int (q : Int), .int (b : Int)]).fld 0).toInt = (p : Int) then (PV.agg [.int (q : Int), .int (b : Int)]).fld 1 else mgetL (.int 0) (p : Int) (plL W (b + 1 + mny (gw W q)) l)) = _
    by_cases e : q = p
    · subst e
      simp [ix, nowL, gp]
    · have hm : p ∈ l := (List.mem_cons.1 h).resolve_left fun e2 => e e2.symm
      have e2 : ¬ (q : Int) = (p : Int) := by omega
      rw [if_neg (by simpa using e2), pl_get hm]
      simp [ix, e, nowL, gp]
theorem pl_set {W : List Int} {p : Nat} : ∀ (l : List Nat) (b : Nat), p ∉ l → msetL (p : Int) (.int ((b + sumB W l : Nat) : Int)) (plL W b l) = plL W b (l ++ [p])
  | [], b, _ => by simp [plL, sumB, msetL]
  | q :: l, b, h => by
    have e : ¬ (q : Int) = (p : Int) := fun e => h (by rw [show p = q by omega]; simp)
    show (if ((PV.agg [.int (q : Int), .int (b : Int)]).fld 0).toInt = (p : Int) then _ else PV.agg [.int (q : Int), .int (b : Int)] :: msetL (p : Int) (.int ((b + sumB W (q :: l) : Nat) : Int)) (plL W (b + 1 + mny (gw W q)) l)) = _
    rw [if_neg (by simpa using e)]
    have := pl_set (W := W) (p := p) l (b + 1 + mny (gw W q)) (fun hm => h (by simp [hm]))
    rw [show b + sumB W (q :: l) = b + 1 + mny (gw W q) + sumB W l by simp [sumB]; omega, this]
    rfl
def zw (A : List Int) (n : Nat) : List Int := A ++ List.replicate (n - A.length) 0
theorem zw_len {A : List Int} {n : Nat} (h : A.length ≤ n) : (zw A n).length = n := by simp [zw]; omega
theorem zw_set {A : List Int} {n : Nat} (h : A.length < n) (x : Int) : ((zw A n).map PV.int).set A.length (.int x) = (zw (A ++ [x]) n).map PV.int := by
  unfold zw
  rw [← List.map_set, List.set_append_right _ _ (Nat.le_refl _), Nat.sub_self]
  obtain ⟨m, hm⟩ : ∃ m, n - A.length = m + 1 := ⟨n - A.length - 1, by omega⟩
  rw [hm, show n - (A ++ [x]).length = m by simp; omega, List.replicate_succ]
  simp
theorem gp_new {l : List Nat} (h : l.Nodup) {k : Nat} (hk : k < l.length) : gp l k ∉ l.take k := by
  have h1 : (l.take (k + 1)).Nodup := (List.take_sublist _ _).nodup h
  rw [take_gp hk, List.nodup_append] at h1
  exact fun hm => h1.2.2 _ hm _ (by simp) rfl
theorem gp_take {l : List Nat} {t k : Nat} (h : t < k) : gp (l.take k) t = gp l t := by
  simp [gp, List.getD_eq_getElem?_getD, List.getElem?_take, h]
theorem ix_gp {l : List Nat} (h : l.Nodup) {k : Nat} (hk : k < l.length) : ix l (gp l k) = k :=
  ix_eq hk rfl fun t ht e => gp_new h hk (by
    rw [← e, ← gp_take (l := l) ht]
    exact gp_mem (by simp; omega))
abbrev zV : PV := .agg [.list [], .int 0, .int 0, .int 0]
abbrev wV (A : List Int) (n : Nat) (half b nx : Int) : PV := heapV (zw A n) half b nx
theorem refWI {p : Int} (h0 : 0 ≤ p) (h1 : p ≤ 6000) : Rn 29 [.int p] [.int (2 * p)] := by
  refine Is.of e29 ((is54 p 0 6000).mp fun n q => ?_)
  rw [show okR p 0 6000 = true by simp [okR]; omega] at q
  simp (disch := omega) [F29, q, wrap64]
section
variable {W : List Int} {half base next : Int} {P fin : List Nat} {b : Nat}
theorem placesI (h : SOk W half base next P) (hW : W.length ≤ 1048576) (hf : Way P fin) (hb : (b : Int) + half ≤ 6000) (rt o1 z : PV) :
    Evt fun n => loopEv (L6_0 (ev Tryz.prog sg n) n) n [.int 0, .int fin.length, .int b, rt, nats fin, .list [], heapV W half base next, o1, z] = some (.x 0, [.int (b + sumB W fin : Nat), nats fin, rt, .list (plL W b fin), heapV W half base next, o1, z]) := by
  have hnl := natsLen fin
  have hpl := h.plen
  have hfl := len_sub hf.nodup hf.sub
  have hs0 := sum_sub (W := W) hf.nodup hf.sub
  have hs1 := h.sum
  have h1 := loop_run (body := fun n => L6_0 (ev Tryz.prog sg n) n) (fun k => [.int k, .int fin.length, .int (b + sumB W (fin.take k) : Nat), rt, nats fin, .list (plL W b (fin.take k)), heapV W half base next, o1, z]) fin.length (e := .x 0)
    (res := [.int (b + sumB W fin : Nat), nats fin, rt, .list (plL W b fin), heapV W half base next, o1, z]) (fun k hk => ?_) (Evt.all fun n => ?_) (by decide)
  · exact h1
  · have hpm : gp fin k ∈ P := hf.sub _ (gp_mem hk)
    have hn := nth_gp hk
    have hs := sum_take_drop W fin k
    have hd := drop_gp hk
    rw [hd] at hs
    simp only [sumB] at hs
    have ht := take_gp hk
    have hss : sumB W (fin.take (k + 1)) = sumB W (fin.take k) + (1 + mny (gw W (gp fin k))) := by rw [ht, sumB_append]; simp [sumB]
    have hset := pl_set (W := W) (fin.take k) b (gp_new hf.nodup hk)
    rw [← ht] at hset
    have hkl := kids_len W (gp fin k)
    have c1 : ltI (k : Int) fin.length = true := ltT (by omega)
    have c2 : geI (k : Int) 0 = true := geT (by omega)
    have w1 : IntKind.i64.wrap ((k : Int) + 1) = ((k + 1 : Nat) : Int) := by rw [wrap64 (by omega) (by omega)]; omega
    have w2 : IntKind.i64.wrap (((b + sumB W (fin.take k) : Nat) : Int) + IntKind.i64.wrap (1 + (mny (gw W (gp fin k)) : Int))) = ((b + sumB W (fin.take (k + 1)) : Nat) : Int) := by
      rw [wrap64 (x := 1 + (mny (gw W (gp fin k)) : Int)) (by omega) (by omega), wrap64 (by omega) (by omega), hss]; omega
    have hk' : ((k : Int)).toNat = k := by omega
    refine (kidsAtI h hW hpm).mp fun n q => ?_
    simp only [L6_0, nth_0, nth_1, nth_2, nth_3, nth_4, nth_5, nth_6, nth_7, nth_8, toInt_int, toList_list, hnl, c1, c2, iff_true', hk', hn, q, Option.bind_some, wordsLen, hkl, hset, w1, w2]
  · rw [List.take_length]
    have c1 : ltI (fin.length : Int) fin.length = false := ltF (by omega)
    simp only [L6_0, nth_0, nth_1, nth_2, nth_3, nth_4, nth_5, nth_6, nth_7, nth_8, toInt_int, c1, iff_false']
theorem movedI (hf : Way P fin) (h : SOk W half base next P) (hb : (b : Int) + half ≤ 6000) {x : Int} (hx : inW fin x) (ht : there P x = true) :
    Rn 27 [.int x, .list (plL W b fin)] [.int (mv W b fin x), .list (plL W b fin)] := by
  by_cases he : x % 2 = 0
  · obtain ⟨x0, _⟩ := there_ev ht he
    have hm := hx he
    have hg := pl_get (W := W) (b := b) hm
    rw [show (((x / 2).toNat : Nat) : Int) = x / 2 by omega] at hg
    obtain ⟨i1, _, _⟩ := ix_lt hm
    have hle := nowL_le (W := W) fin b (ix fin (x / 2).toNat) (by rw [nowL_len]; exact i1)
    have hs0 := sum_sub (W := W) hf.nodup hf.sub
    have hs1 := h.sum
    have hmv : mv W b fin x = 2 * (gp (nowL W b fin) (ix fin (x / 2).toNat) : Int) := by simp [mv, he]
    rw [hmv]
    generalize gp (nowL W b fin) (ix fin (x / 2).toNat) = y at hg hle
    refine Is.of e27 ((refI x).mp3 (wrefI x) (refWI (p := (y : Int)) (by omega) (by omega)) fun n q1 q2 q3 => ?_)
    rw [eqT he] at q1
    simp only [F27, nth_0, nth_1, q1, q2, toInt_int, toList_list, toBool_bool, iff_true', Option.bind_some, hg, q3]
  · refine Is.of e27 ((refI x).mp fun n q1 => ?_)
    rw [eqF he] at q1
    simp only [F27, nth_0, nth_1, q1, toBool_bool, iff_false', Option.bind_some, mv, he, if_false]
theorem innerI (h : SOk W half base next P) (hf : Way P fin) (hb : (b : Int) + half ≤ 6000) {p : Nat} (hk : ∀ x, x ∈ kids W p → inW fin x ∧ there P x = true) {A : List Int} {n : Nat} (hA : A.length + (1 + mny (gw W p)) ≤ n) (hn : n ≤ 6000) (bb nx : Int) (y4 y5 y6 y7 y8 z : PV) :
    Evt fun N => loopEv (L6_1 (ev Tryz.prog sg N) N) N [.int 0, .int (kids W p).length, words (kids W p), .int A.length, y4, y5, y6, y7, y8, wV (A ++ [gw W p]) n half bb nx, z, .list (plL W b fin)] = some (.x 4, [y4, y5, y6, y7, y8, wV (A ++ blkM W b fin p) n half bb nx, z, .list (plL W b fin)]) := by
  have hkl := kids_len W p
  have hml := mny_lt (gw W p)
  have h1 := loop_run (body := fun N => L6_1 (ev Tryz.prog sg N) N) (fun k => [.int k, .int (kids W p).length, words (kids W p), .int A.length, y4, y5, y6, y7, y8, wV (A ++ gw W p :: ((kids W p).take k).map (mv W b fin)) n half bb nx, z, .list (plL W b fin)]) (kids W p).length (e := .x 4)
    (res := [y4, y5, y6, y7, y8, wV (A ++ blkM W b fin p) n half bb nx, z, .list (plL W b fin)]) (fun k hk' => ?_) (Evt.all fun N => ?_) (by decide)
  · exact h1
  · have hn1 := nth_gw hk'
    have hm : gw (kids W p) k ∈ kids W p := by simp [gw, List.getD_eq_getElem?_getD, hk']
    obtain ⟨g1, g2⟩ := hk _ hm
    have e1 : (kids W p).take (k + 1) = (kids W p).take k ++ [gw (kids W p) k] := by
      rw [List.take_add_one, List.getElem?_eq_getElem hk']
      simp [gw, List.getD_eq_getElem?_getD, hk']
    have e2 : A ++ gw W p :: ((kids W p).take (k + 1)).map (mv W b fin) = (A ++ gw W p :: ((kids W p).take k).map (mv W b fin)) ++ [mv W b fin (gw (kids W p) k)] := by rw [e1]; simp
    have hl : (A ++ gw W p :: ((kids W p).take k).map (mv W b fin)).length = A.length + 1 + k := by simp; omega
    rw [e2]
    generalize A ++ gw W p :: ((kids W p).take k).map (mv W b fin) = A1 at hl
    have hset := zw_set (A := A1) (n := n) (by omega) (mv W b fin (gw (kids W p) k))
    have hzl : ((zw A1 n).map PV.int).length = n := by rw [List.length_map]; exact zw_len (by omega)
    have c1 : ltI (k : Int) (kids W p).length = true := ltT (by omega)
    have c2 : geI (k : Int) 0 = true := geT (by omega)
    have w1 : IntKind.i64.wrap ((k : Int) + 1) = ((k + 1 : Nat) : Int) := by rw [wrap64 (by omega) (by omega)]; omega
    have w2 : IntKind.i64.wrap (IntKind.i64.wrap ((A.length : Int) + 1) + (k : Int)) = (A1.length : Int) := by
      rw [wrap64 (x := (A.length : Int) + 1) (by omega) (by omega), wrap64 (by omega) (by omega), hl]; omega
    have c3 : geI (A1.length : Int) 0 = true := geT (by omega)
    have c4 : ltI (A1.length : Int) n = true := ltT (by omega)
    have hk'' : ((k : Int)).toNat = k := by omega
    have hA1 : ((A1.length : Int)).toNat = A1.length := by omega
    refine (movedI hf h hb g1 g2).mp fun N q => ?_
    simp only [L6_1, nth_0, nth_1, nth_2, nth_3, nth_4, nth_5, nth_6, nth_7, nth_8, nth_9, nth_10, nth_11, toInt_int, toList_list, wordsLen, c1, c2, iff_true', hk'', hn1, q, Option.bind_some, w1, w2, c3, fld_agg, hzl, c4, hA1, setFld_agg, List.set_cons_zero, hset]
  · rw [List.take_length]
    have c1 : ltI ((kids W p).length : Int) (kids W p).length = false := ltF (by omega)
    simp only [L6_1, nth_0, nth_1, nth_2, nth_3, nth_4, nth_5, nth_6, nth_7, nth_8, nth_9, nth_10, nth_11, toInt_int, c1, iff_false']
    rfl
theorem copyLoop (h : SOk W half base next P) (hW : W.length ≤ 1048576) (hf : Way P fin) {n : Nat} (hb : (b : Int) + half ≤ n) (hn : n ≤ 6000) (hk : ∀ q, q ∈ fin → ∀ x, x ∈ kids W q → inW fin x) (bb nx : Int) (rt z : PV) :
    Evt fun N => loopEv (L6_2 (ev Tryz.prog sg N) N) N [.int 0, .int fin.length, rt, nats fin, heapV W half base next, wV (List.replicate b 0) n half bb nx, z, .list (plL W b fin)] = some (.x 2, [rt, wV (List.replicate b 0 ++ blkF W b fin fin) n half bb nx, z, .list (plL W b fin)]) := by
  have hnl := natsLen fin
  have hpl := h.plen
  have hfl := len_sub hf.nodup hf.sub
  have hs0 := sum_sub (W := W) hf.nodup hf.sub
  have hs1 := h.sum
  have h1 := loop_run (body := fun N => L6_2 (ev Tryz.prog sg N) N) (fun k => [.int k, .int fin.length, rt, nats fin, heapV W half base next, wV (List.replicate b 0 ++ blkF W b fin (fin.take k)) n half bb nx, z, .list (plL W b fin)]) fin.length (e := .x 2)
    (res := [rt, wV (List.replicate b 0 ++ blkF W b fin fin) n half bb nx, z, .list (plL W b fin)]) (fun k hk' => ?_) (Evt.all fun N => ?_) (by decide)
  · have e0 : wV (List.replicate b 0 ++ blkF W b fin (fin.take 0)) n half bb nx = wV (List.replicate b 0) n half bb nx := by simp [blkF]
    rw [e0] at h1
    exact h1
  · have hpm : gp fin k ∈ P := hf.sub _ (gp_mem hk')
    have hn1 := nth_gp hk'
    have hs := sum_take_drop W fin k
    have hd := drop_gp hk'
    rw [hd] at hs
    simp only [sumB] at hs
    have ht := take_gp hk'
    have hbf : List.replicate b 0 ++ blkF W b fin (fin.take (k + 1)) = (List.replicate b 0 ++ blkF W b fin (fin.take k)) ++ blkM W b fin (gp fin k) := by rw [ht]; simp [blkF]
    have hAl : (List.replicate b (0 : Int) ++ blkF W b fin (fin.take k)).length = b + sumB W (fin.take k) := by simp [blkF_len]
    rw [hbf]
    generalize List.replicate b (0 : Int) ++ blkF W b fin (fin.take k) = A at hAl
    have hg := pl_get (W := W) (b := b) (gp_mem hk')
    rw [ix_gp hf.nodup hk', nowL_gp W fin b k hk', ← hAl] at hg
    obtain ⟨hm1, _⟩ := h.mem _ hpm
    have hWl := wordsLen W
    have hzl : ((zw A n).map PV.int).length = n := by rw [List.length_map]; exact zw_len (by omega)
    have hnw := nth_gw (W := W) (i := gp fin k) (by omega)
    have hset := zw_set (A := A) (n := n) (by omega) (gw W (gp fin k))
    have hin := innerI h hf (b := b) (by omega) (p := gp fin k) (fun x hx => ⟨hk _ (gp_mem hk') x hx, h.kid _ hpm x hx⟩) (A := A) (n := n) (by omega) hn bb nx (.int k) (.int fin.length) rt (nats fin) (heapV W half base next) z
    have c1 : ltI (k : Int) fin.length = true := ltT (by omega)
    have c2 : geI (k : Int) 0 = true := geT (by omega)
    have c3 : geI (gp fin k : Int) 0 = true := geT (by omega)
    have c4 : ltI (gp fin k : Int) W.length = true := ltT (by omega)
    have c5 : geI (A.length : Int) 0 = true := geT (by omega)
    have c6 : ltI (A.length : Int) n = true := ltT (by omega)
    have w1 : IntKind.i64.wrap ((k : Int) + 1) = ((k + 1 : Nat) : Int) := by rw [wrap64 (by omega) (by omega)]; omega
    have hk'' : ((k : Int)).toNat = k := by omega
    have hA1 : ((A.length : Int)).toNat = A.length := by omega
    have hp1 : ((gp fin k : Int)).toNat = gp fin k := by omega
    refine (kidsAtI h hW hpm).mp2 hin fun N q1 q2 => ?_
    simp only [L6_2, nth_0, nth_1, nth_2, nth_3, nth_4, nth_5, nth_6, nth_7, toInt_int, toList_list, fld_agg, hnl, hWl, c1, c2, iff_true', hk'', hn1, c3, c4, hg, c5, hzl, c6, q1, Option.bind_some, hp1, hnw, hA1, setFld_agg, List.set_cons_zero, hset, wordsLen, q2, thenE_some, passB_same, thenN_n, w1]
  · rw [List.take_length]
    have c1 : ltI (fin.length : Int) fin.length = false := ltF (by omega)
    simp only [L6_2, nth_0, nth_1, nth_2, nth_3, nth_4, nth_5, nth_6, nth_7, toInt_int, c1, iff_false']
theorem ownLoop (h : SOk W half base next P) (hf : Way P fin) (hb : (b : Int) + half ≤ 6000) {R : List Int} (hR : ∀ x, x ∈ R → inW fin x ∧ there P x = true) (hRl : R.length ≤ 1048576) (o1 z : PV) :
    Evt fun N => loopEv (L6_3 (ev Tryz.prog sg N) N) N [.int 0, .int R.length, words R, .list [], o1, z, .list (plL W b fin)] = some (.x 6, [words (R.map (mv W b fin)), o1, z]) := by
  have h1 := loop_run (body := fun N => L6_3 (ev Tryz.prog sg N) N) (fun k => [.int k, .int R.length, words R, words ((R.take k).map (mv W b fin)), o1, z, .list (plL W b fin)]) R.length (e := .x 6)
    (res := [words (R.map (mv W b fin)), o1, z]) (fun k hk => ?_) (Evt.all fun N => ?_) (by decide)
  · exact h1
  · have hn1 := nth_gw hk
    have hm : gw R k ∈ R := by simp [gw, List.getD_eq_getElem?_getD, hk]
    obtain ⟨g1, g2⟩ := hR _ hm
    have e1 : R.take (k + 1) = R.take k ++ [gw R k] := by
      rw [List.take_add_one, List.getElem?_eq_getElem hk]
      simp [gw, List.getD_eq_getElem?_getD, hk]
    have e2 : ((R.take k).map (mv W b fin)).map PV.int ++ [PV.int (mv W b fin (gw R k))] = ((R.take (k + 1)).map (mv W b fin)).map PV.int := by rw [e1]; simp
    have hl : (((R.take k).map (mv W b fin)).map PV.int).length ≤ 1048576 := by simp; omega
    have c1 : ltI (k : Int) R.length = true := ltT (by omega)
    have c2 : geI (k : Int) 0 = true := geT (by omega)
    have w1 : IntKind.i64.wrap ((k : Int) + 1) = ((k + 1 : Nat) : Int) := by rw [wrap64 (by omega) (by omega)]; omega
    have hk'' : ((k : Int)).toNat = k := by omega
    have c3 : leN ((((R.take k).map (mv W b fin)).map PV.int).length + [PV.int (mv W b fin (gw R k))].length) 17592186044416 = true := leNT (by simp only [List.length_cons, List.length_nil]; omega)
    refine (movedI hf h hb g1 g2).mp fun N q => ?_
    simp only [L6_3, nth_0, nth_1, nth_2, nth_3, nth_4, nth_5, nth_6, toInt_int, toList_list, wordsLen R, c1, c2, iff_true', hk'', hn1, q, Option.bind_some, c3, e2, w1]
  · rw [List.take_length]
    have c1 : ltI (R.length : Int) R.length = false := ltF (by omega)
    simp only [L6_3, nth_0, nth_1, nth_2, nth_3, nth_4, nth_5, nth_6, toInt_int, c1, iff_false']
/-- The program's move, of what is right. -/
theorem collectI (h : SOk W half base next P) (hW : W.length ≤ 1048576) {R : List Int} (hR : ∀ x, x ∈ R → there P x = true) (hRl : R.length ≤ 1048576) {fin : List Nat} (hfin : fin = bfs W P.length 0 (addAll [] R)) (hf : Way P fin) (hk : ∀ q, q ∈ fin → ∀ x, x ∈ kids W q → inW fin x) (hRf : ∀ x, x ∈ R → inW fin x) (hok : rootsB W half base next R = true) :
    Rn 6 [heapV W half base next, words R] [toV (List.replicate (half - base).toNat 0 ++ blkF W (half - base).toNat fin fin) (2 * half).toNat half (half - base), words (R.map (mv W (half - base).toNat fin))] := by
  obtain ⟨g1, g2, g3, g4⟩ := h.pre
  have hbb : (((half - base).toNat : Nat) : Int) = half - base := by omega
  have hnn : (2 * half).toNat = W.length := by omega
  have hr := rootsI (half := half) (base := base) (next := next) (R := R) hW hRl
  rw [hok] at hr
  have hm := metI h hW hR hRl
  rw [← hfin] at hm
  generalize hb' : (half - base).toNat = b at *
  have hpl := placesI h hW hf (b := b) (by omega) (words R) (.agg [.list (List.replicate W.length (PV.int 0)), .int half, .int (half - base), .int 0]) zV
  have hcp := copyLoop h hW hf (b := b) (n := W.length) (by omega) (by omega) hk (half - base) ((b + sumB W fin : Nat) : Int) (words R) zV
  have how := ownLoop h hf (b := b) (by omega) (R := R) (fun x hx => ⟨hRf x hx, hR x hx⟩) hRl (wV (List.replicate b 0 ++ blkF W b fin fin) W.length half (half - base) ((b + sumB W fin : Nat) : Int)) zV
  have hz0 : (List.replicate W.length (PV.int 0)) = (zw (List.replicate b 0) W.length).map PV.int := by
    unfold zw
    rw [List.length_replicate, List.replicate_append_replicate, List.map_replicate, show b + (W.length - b) = W.length by omega]
  have hal : (List.replicate b (0 : Int) ++ blkF W b fin fin).length = b + sumB W fin := by simp [blkF_len]
  have htv : toV (List.replicate b 0 ++ blkF W b fin fin) (2 * half).toNat half (half - base) = wV (List.replicate b 0 ++ blkF W b fin fin) W.length half (half - base) ((b + sumB W fin : Nat) : Int) := by
    unfold toV wV zw
    rw [hnn, hal]
  rw [htv]
  have w0 : IntKind.i64.wrap (half - base) = (b : Int) := by rw [hbb]; exact wrap64 (by omega) (by omega)
  have hWl := wordsLen W
  have hnl := natsLen fin
  have hRl' := wordsLen R
  have c1 : geI (W.length : Int) 0 = true := geT (by omega)
  have c2 : leI (W.length : Int) W.length = true := leT (by omega)
  have c3 : leI (W.length : Int) 17592186044416 = true := leT (by omega)
  have hWt : ((W.length : Int)).toNat = W.length := by omega
  rw [← hbb] at hpl hcp how
  refine Is.of e6 (Evt.and (hr.and hm) (hpl.and (hcp.and how)) |>.mp fun N q => ?_)
  obtain ⟨⟨q1, q2⟩, q3, q4, q5⟩ := q
  rw [hz0] at q3
  rw [← hbb]
  simp only [F6, nth_0, nth_1, nth_2, nth_3, nth_4, nth_5, nth_6, q1, q2, Option.bind_some, toBool_bool, Bool.not_true, iff_false', fld_agg, toList_list, toInt_int, hWl, c1, c2, c3, iff_true', w0, hnl, hWt, hz0, q3, thenE_some, passB_same, thenN_n, setFld_agg, List.set_cons_zero, List.set_cons_succ, q4, hRl', q5]
end
/-! ### Numbers, written out -/
def dgB (n : Int) : PV := .str (sB (Lib.itoa n))
theorem digI {n : Int} (h0 : -9223372036854775808 ≤ n) (h1 : n < 9223372036854775808) : Rn 38 [.int n] [dgB n] := by
  have ho : Rn 65 [.int n] [dgB n] := orc_is (s := itoaSig) rfl rfl (by
    show (if (decide (-9223372036854775808 ≤ n) && decide (n ≤ 9223372036854775807)) = true then some [dgB n] else none) = some [dgB n]
    rw [if_pos]
    simp only [Bool.and_eq_true, decide_eq_true_eq]
    omega)
  exact Is.of e38 (ho.mp fun n h => by simp [F38, h])
/-- what is left, and what is written, behind j rounds -/
def dinv (s : Int) (u : Nat) (b : Bool) (j : Nat) : List PV := [.int (s * ((u / 10 ^ j : Nat) : Int)), .bool b, .str (sB (dgs u j))]
theorem wrap8 {x : Int} (h0 : 0 ≤ x) (h1 : x < 256) : IntKind.u8.wrap x = x := by
  unfold IntKind.wrap
  simp only [IntKind.bits, IntKind.signed]
  first
    | omega
    | (simp; omega)
theorem b2s_one {v : Nat} (h : v < 10) : b2sL [.int (IntKind.u8.wrap (IntKind.i64.wrap (48 + (v : Int))))] = sB [UInt8.ofNat (48 + v)] := by
  rw [wrap64 (by omega) (by omega), wrap8 (by omega) (by omega)]
  unfold b2sL sB
  have : ((48 : Int) + v).toNat = 48 + v := by omega
  simp [PV.toInt, this]
theorem digLoop {s : Int} {u : Nat} {b : Bool} (hs : s = 1 ∨ s = -1) (hu : u < 9223372036854775809) (h1 : s = 1 → u < 9223372036854775808) :
    Evt fun n => loopEv (L43_0 (ev Tryz.prog sg n) n) n [.int (s * (u : Int)), .bool b, .str (sB [])] = some (.x 0, [.bool b, .str (sB (if u = 0 then [] else Lib.decDigits u))]) := by
  have e0 : ([.int (s * (u : Int)), .bool b, .str (sB [])] : List PV) = dinv s u b 0 := by simp [dinv, dgs]
  rw [e0]
  by_cases hz : u = 0
  · subst hz
    refine loop_run (dinv s 0 b) 0 (fun i hi => by omega) (Evt.all fun n => ?_) (by decide)
    simp [L43_0, dinv, neF, dgs]
  · rw [if_neg hz, ← dgs_all]
    have hk := nDigits_le (u := u) (by omega)
    refine loop_run (dinv s u b) (Lib.nDigits u) (fun j hj => Evt.all fun n => ?_) (Evt.all fun n => ?_) (by decide)
    · have hp := pow_nDigits u (by omega)
      have hp2 : 10 ^ j ≤ 10 ^ (Lib.nDigits u - 1) := Nat.pow_le_pow_right (by decide) (by omega)
      have hq : 1 ≤ u / 10 ^ j := (Nat.one_le_div_iff (Nat.pow_pos (by decide))).2 (by omega)
      have hdg : Lib.dg u j = UInt8.ofNat (48 + u / 10 ^ j % 10) := rfl
      have hnext : u / 10 ^ (j + 1) = u / 10 ^ j / 10 := by rw [Nat.pow_succ, Nat.div_div_eq_div_mul]
      have hle : u / 10 ^ j ≤ u := Nat.div_le_self _ _
      have hsz : (dgs u j).length = j := dgs_length u j
      simp only [dinv, dgs_succ, hnext, hdg]
      generalize u / 10 ^ j = v at *
      have hr := b2s_one (v := v % 10) (Nat.mod_lt _ (by decide))
      rcases hs with rfl | rfl
      · have a1 : arith .rem .i64 (v : Int) 10 = ((v % 10 : Nat) : Int) := arith_rem v 10
        have a2 : arith .quo .i64 (v : Int) 10 = ((v / 10 : Nat) : Int) := arith_quo v 10 (by have := h1 rfl; omega)
        have c1 : ltI ((v % 10 : Nat) : Int) 0 = false := ltF (by omega)
        have c2 : neI (v : Int) 0 = true := neT (by omega)
        have c3 : leI ((sB ([UInt8.ofNat (48 + v % 10)] ++ dgs u j)).size : Int) 9223372036854775807 = true := leT (by simp [hsz]; omega)
        simp only [L43_0, Int.one_mul, nth_0, nth_1, nth_2, nth_3, toInt_int, toStr_str, a1, a2, c1, c2, iff_true', iff_false', thenN_n, hr, catB_sB, c3, neT (x := 10) (y := 0) (by decide)]
        rfl
      · have a1 : arith .rem .i64 (-1 * (v : Int)) 10 = -((v % 10 : Nat) : Int) := by
          show (-1 * (v : Int)).tmod 10 = _
          rw [Int.neg_one_mul, Int.neg_tmod, Int.tmod_eq_emod_of_nonneg (by omega)]; rfl
        have a2 : arith .quo .i64 (-1 * (v : Int)) 10 = -1 * ((v / 10 : Nat) : Int) := by
          show IntKind.i64.wrap ((-1 * (v : Int)).tdiv 10) = _
          rw [Int.neg_one_mul, Int.neg_tdiv, Int.tdiv_eq_ediv_of_nonneg (by omega), wrap64 (by omega) (by omega), Int.neg_one_mul]; rfl
        have c2 : neI (-1 * (v : Int)) 0 = true := neT (by omega)
        have c3 : leI ((sB ([UInt8.ofNat (48 + v % 10)] ++ dgs u j)).size : Int) 9223372036854775807 = true := leT (by simp [hsz]; omega)
        have a3 : IntKind.i64.wrap (0 - -((v % 10 : Nat) : Int)) = ((v % 10 : Nat) : Int) := by rw [wrap64 (by omega) (by omega)]; omega
        by_cases hv : v % 10 = 0
        · have c1 : ltI ((v % 10 : Nat) : Int) 0 = false := ltF (by omega)
          have a4 : -((v % 10 : Nat) : Int) = ((v % 10 : Nat) : Int) := by omega
          simp only [L43_0, nth_0, nth_1, nth_2, nth_3, toInt_int, toStr_str, a1, a2, c1, c2, iff_true', iff_false', thenN_n, a4, hr, catB_sB, c3, neT (x := 10) (y := 0) (by decide)]
          rfl
        · have c1 : ltI (-((v % 10 : Nat) : Int)) 0 = true := ltT (by omega)
          simp only [L43_0, nth_0, nth_1, nth_2, nth_3, toInt_int, toStr_str, a1, a2, a3, c1, c2, iff_true', iff_false', thenN_n, hr, catB_sB, c3, neT (x := 10) (y := 0) (by decide)]
          rfl
    · have hl := Lib.lt_pow_nDigits u
      have : u / 10 ^ Lib.nDigits u = 0 := Nat.div_eq_of_lt hl
      simp [L43_0, dinv, this, neF]
theorem digS {n : Int} (h0 : -9223372036854775808 ≤ n) (h1 : n < 9223372036854775808) : Rn 43 [.int n] [dgB n] := by
  by_cases hz : n = 0
  · subst hz
    have e : dgB 0 = .str ⟨#[48]⟩ := by simp [dgB, Lib.itoa, Lib.decDigits_one, sB]
    exact Is.of e43 (Evt.all fun n => by simp [F43, eqT, e])
  · have c1 : eqI n 0 = false := eqF hz
    by_cases hn : n < 0
    · have hl := digLoop (s := -1) (u := n.natAbs) (b := true) (.inr rfl) (by omega) (fun h => by cases h)
      rw [show -1 * (n.natAbs : Int) = n by omega, if_neg (by omega : ¬ n.natAbs = 0)] at hl
      refine Is.of e43 (hl.mp fun k h => ?_)
      have c2 : ltI n 0 = true := ltT hn
      have e : dgB n = .str (sB ([45] ++ Lib.decDigits n.natAbs)) := by simp [dgB, Lib.itoa, hn]
      have e1 : (⟨#[]⟩ : ByteArray) = sB [] := rfl
      have e2 : (⟨#[45]⟩ : ByteArray) = sB [45] := rfl
      have e3 : leI ((sB ([45] ++ Lib.decDigits n.natAbs)).size : Int) 9223372036854775807 = true := leT (by
        have := nDigits_le (u := n.natAbs) (by omega)
        simp [Lib.decDigits_length]; omega)
      simp only [F43, nth_0, nth_1, toInt_int, c1, iff_false', c2, e1, h, thenE_some, passB_same, thenN_n, toBool_bool, iff_true', e2, toStr_str, catB_sB, e3, e]
    · have hl := digLoop (s := 1) (u := n.toNat) (b := false) (.inl rfl) (by omega) (fun h => by omega)
      rw [show 1 * (n.toNat : Int) = n by omega, if_neg (by omega : ¬ n.toNat = 0)] at hl
      refine Is.of e43 (hl.mp fun k h => ?_)
      have c2 : ltI n 0 = false := ltF (by omega)
      have e : dgB n = .str (sB (Lib.decDigits n.toNat)) := by simp [dgB, Lib.itoa, hn]
      have e1 : (⟨#[]⟩ : ByteArray) = sB [] := rfl
      simp only [F43, nth_0, nth_1, toInt_int, c1, iff_false', c2, e1, h, thenE_some, passB_same, thenN_n, toBool_bool, e]
/-! ### Bytes of strings -/
theorem s2bL_sB (l : List UInt8) : s2bL (sB l) = l.map fun b : UInt8 => PV.int b.toNat := by simp [s2bL]
theorem b2sL_map (l : List UInt8) : b2sL (l.map fun b : UInt8 => PV.int b.toNat) = sB l := by
  unfold b2sL sB
  rw [List.map_map]
  congr 1
  congr 1
  conv => rhs; rw [← List.map_id l]
  refine List.map_congr_left fun b _ => ?_
  simp [PV.toInt]
abbrev bytesV (l : List UInt8) : PV := .list (l.map fun b : UInt8 => PV.int b.toNat)
theorem ot32 : (⟨#[32]⟩ : ByteArray) = sB [32] := rfl
theorem ot10 : (⟨#[10]⟩ : ByteArray) = sB [10] := rfl
theorem ot0 : (⟨#[]⟩ : ByteArray) = sB [] := rfl
def i64 (x : Int) : Prop := -9223372036854775808 ≤ x ∧ x < 9223372036854775808
/-! ### A heap's shape, written out -/
def idL : Nat → List Nat → List PV
  | _, [] => []
  | b, p :: l => .agg [.int (p : Int), .int (b : Int)] :: idL (b + 1) l
theorem id_get {p : Nat} : ∀ {l : List Nat} {b : Nat}, p ∈ l → mgetL (.int 0) (p : Int) (idL b l) = .int ((b + ix l p : Nat) : Int)
  | q :: l, b, h => by
    show (if ((PV.agg [.int (q : Int), .int (b : Int)]).fld 0).toInt = (p : Int) then (PV.agg [.int (q : Int), .int (b : Int)]).fld 1 else mgetL (.int 0) (p : Int) (idL (b + 1) l)) = _
    by_cases e : q = p
    · subst e
      simp [ix]
    · have hm : p ∈ l := (List.mem_cons.1 h).resolve_left fun e2 => e e2.symm
      have e2 : ¬ (q : Int) = (p : Int) := by omega
      rw [if_neg (by simpa using e2), id_get hm]
      simp [ix, e]
      omega
theorem id_set {p : Nat} : ∀ (l : List Nat) (b : Nat), p ∉ l → msetL (p : Int) (.int ((b + l.length : Nat) : Int)) (idL b l) = idL b (l ++ [p])
  | [], b, _ => by simp [idL, msetL]
  | q :: l, b, h => by
    have e : ¬ (q : Int) = (p : Int) := fun e => h (by rw [show p = q by omega]; simp)
    show (if ((PV.agg [.int (q : Int), .int (b : Int)]).fld 0).toInt = (p : Int) then _ else PV.agg [.int (q : Int), .int (b : Int)] :: msetL (p : Int) (.int ((b + (q :: l).length : Nat) : Int)) (idL (b + 1) l)) = _
    rw [if_neg (by simpa using e)]
    have := id_set (p := p) l (b + 1) (fun hm => h (by simp [hm]))
    rw [show b + (q :: l).length = b + 1 + l.length by simp; omega, this]
    rfl
theorem ix_le : ∀ (l : List Nat) (p : Nat), ix l p ≤ l.length
  | [], _ => Nat.le_refl _
  | q :: l, p => by
    have := ix_le l p
    simp only [ix, List.length_cons]
    split <;> omega
def wordB (fin : List Nat) (x : Int) : List UInt8 := if x % 2 = 0 then [32, 64] ++ Lib.itoa (ix fin (x / 2).toNat) else [32] ++ Lib.itoa (x / 2)
def wordsB (fin : List Nat) (l : List Int) : List UInt8 := l.flatMap (wordB fin)
theorem wordB_len {fin : List Nat} (hf : fin.length ≤ 3000) {x : Int} (h : i64 x) : (wordB fin x).length ≤ 23 := by
  have h1 := ix_le fin (x / 2).toNat
  have l1 := itoa_len (n := (ix fin (x / 2).toNat : Int)) (by omega) (by omega)
  obtain ⟨h2, h3⟩ := h
  have l2 := itoa_len (n := x / 2) (by omega) (by omega)
  unfold wordB
  split <;> simp only [List.length_append, List.length_cons, List.length_nil] <;> omega
theorem wordsB_len {fin : List Nat} (hf : fin.length ≤ 3000) : ∀ {l : List Int}, (∀ x, x ∈ l → i64 x) → (wordsB fin l).length ≤ 23 * l.length
  | [], _ => by simp [wordsB]
  | x :: l, h => by
    have h1 := wordB_len hf (h x (by simp))
    have h2 := wordsB_len hf (l := l) fun y hy => h y (by simp [hy])
    simp only [wordsB, List.flatMap_cons, List.length_append, List.length_cons] at h2 ⊢
    omega
theorem wordsB_snoc (fin : List Nat) (l : List Int) (x : Int) : wordsB fin (l ++ [x]) = wordsB fin l ++ wordB fin x := by simp [wordsB]
def headB (w : Int) : List UInt8 := (if eqI (w / 2 % 2) 1 then [102, 117, 110] else [99, 111, 110]) ++ [32] ++ Lib.itoa (w / 2 / 128)
def blockB (W : List Int) (fin : List Nat) (p : Nat) : List UInt8 := headB (gw W p) ++ wordsB fin (kids W p) ++ [10]
def shapeB (W : List Int) (fin : List Nat) (R : List Int) (l : List Nat) : List UInt8 := wordsB fin R ++ [10] ++ l.flatMap (blockB W fin)
theorem shapeB_snoc (W : List Int) (fin : List Nat) (R : List Int) (l : List Nat) (p : Nat) : shapeB W fin R (l ++ [p]) = shapeB W fin R l ++ blockB W fin p := by simp [shapeB]
theorem gw_i64 {W : List Int} (h : ∀ w, w ∈ W → i64 w) (i : Nat) : i64 (gw W i) := by
  unfold gw
  rw [List.getD_eq_getElem?_getD]
  cases e : W[i]? with
  | none => exact ⟨by decide, by decide⟩
  | some w => exact h w (List.mem_of_getElem? e)
theorem kids_i64 {W : List Int} (h : ∀ w, w ∈ W → i64 w) (p : Nat) : ∀ x, x ∈ kids W p → i64 x := by
  intro x hx
  obtain ⟨k, _, rfl⟩ := List.mem_map.1 hx
  exact gw_i64 h _
theorem headB_len {w : Int} (h : i64 w) : (headB w).length ≤ 25 := by
  obtain ⟨h2, h3⟩ := h
  have l2 := itoa_len (n := w / 2 / 128) (by omega) (by omega)
  unfold headB
  split <;> simp only [List.length_append, List.length_cons, List.length_nil] <;> omega
theorem blockB_len {W : List Int} {fin : List Nat} (hf : fin.length ≤ 3000) (h : ∀ w, w ∈ W → i64 w) (p : Nat) : (blockB W fin p).length ≤ 1500 := by
  have h1 := headB_len (gw_i64 h p)
  have h2 := wordsB_len hf (kids_i64 h p)
  rw [kids_len] at h2
  have := mny_lt (gw W p)
  simp only [blockB, List.length_append, List.length_cons, List.length_nil]
  omega
theorem shapeB_len {W : List Int} {fin : List Nat} (hf : fin.length ≤ 3000) (h : ∀ w, w ∈ W → i64 w) {R : List Int} (hR : ∀ w, w ∈ R → i64 w) (hRl : R.length ≤ 1048576) : ∀ l : List Nat, (shapeB W fin R l).length ≤ 30000000 + 1500 * l.length
  | [] => by
    have := wordsB_len hf hR
    simp only [shapeB, List.flatMap_nil, List.length_append, List.length_cons, List.length_nil]
    omega
  | p :: l => by
    have h1 := shapeB_len hf h hR hRl l
    have h2 := blockB_len hf h p
    simp only [shapeB, List.flatMap_cons, List.length_append, List.length_cons, List.length_nil] at h1 ⊢
    omega
theorem sh64 : (⟨#[32, 64]⟩ : ByteArray) = sB [32, 64] := rfl
theorem shFun4 : (⟨#[102, 117, 110, 32]⟩ : ByteArray) = sB [102, 117, 110, 32] := rfl
theorem shCon4 : (⟨#[99, 111, 110, 32]⟩ : ByteArray) = sB [99, 111, 110, 32] := rfl
theorem shFun3 : (⟨#[102, 117, 110]⟩ : ByteArray) = sB [102, 117, 110] := rfl
theorem shCon3 : (⟨#[99, 111, 110]⟩ : ByteArray) = sB [99, 111, 110] := rfl
section
variable {W R : List Int} {half base next : Int} {P fin : List Nat}
/-- Words behind bytes. -/
theorem lineI (hf : Way P fin) (hfl : fin.length ≤ 3000) {l : List Int} (hl : ∀ x, x ∈ l → inW fin x ∧ there P x = true ∧ i64 x) (hll : l.length ≤ 1048576) {t : List UInt8} (ht : t.length ≤ 1000000000) :
    Rn 37 [words l, bytesV t, .list (idL 0 fin)] [bytesV (t ++ wordsB fin l ++ [10]), .list (idL 0 fin)] := by
  have hlen := wordsLen l
  have hwl := wordsB_len hfl fun x hx => (hl x hx).2.2
  have h1 := loop_run (body := fun n => L37_0 (ev Tryz.prog sg n) n) (fun k => [.int k, .int l.length, words l, .list (idL 0 fin), bytesV (t ++ wordsB fin (l.take k))]) l.length (e := .x 0) (res := [.list (idL 0 fin), bytesV (t ++ wordsB fin l)]) (fun k hk => ?_) (Evt.all fun n => ?_) (by decide)
  · refine Is.of e37 (h1.mp fun n q => ?_)
    have e0 : t ++ wordsB fin (l.take 0) = t := by simp [wordsB]
    rw [e0] at q
    have q' : loopEv (L37_0 (ev Tryz.prog sg n) n) n [.int 0, .int l.length, words l, .list (idL 0 fin), bytesV t] = some (.x 0, [.list (idL 0 fin), bytesV (t ++ wordsB fin l)]) := q
    have c1 : leN (((t ++ wordsB fin l).map fun b : UInt8 => PV.int b.toNat).length + [PV.int 10].length) 140737488355328 = true := leNT (by simp only [List.length_map, List.length_append, List.length_cons, List.length_nil]; omega)
    have e1 : ((t ++ wordsB fin l).map fun b : UInt8 => PV.int b.toNat) ++ [PV.int 10] = (t ++ wordsB fin l ++ [10]).map fun b : UInt8 => PV.int b.toNat := by simp
    simp only [F37, nth_0, nth_1, nth_2, toList_list, hlen, q', thenE_some, passB_same, thenN_n, c1, iff_true', e1]
  · have hn := nth_gw hk
    obtain ⟨hx, hP, h64⟩ := hl _ (gw_mem hk)
    have hwk := wordsB_len hfl (l := l.take k) fun x hx => (hl x (List.mem_of_mem_take hx)).2.2
    have hkl : (l.take k).length ≤ 1048576 := by rw [List.length_take]; omega
    rw [take_gw hk, wordsB_snoc]
    have hwx := wordB_len hfl h64
    have ht2 : (t ++ wordsB fin (l.take k)).length ≤ 1100000000 := by rw [List.length_append]; omega
    rw [← List.append_assoc]
    generalize t ++ wordsB fin (l.take k) = T at ht2
    generalize gw l k = x at *
    have c1 : ltI (k : Int) l.length = true := ltT (by omega)
    have c2 : geI (k : Int) 0 = true := geT (by omega)
    have w1 : IntKind.i64.wrap ((k : Int) + 1) = ((k + 1 : Nat) : Int) := by rw [wrap64 (by omega) (by omega)]; omega
    have hk' : ((k : Int)).toNat = k := by omega
    obtain ⟨r1, r2⟩ := h64
    by_cases he : x % 2 = 0
    · obtain ⟨x0, xP⟩ := there_ev hP he
      have hg := id_get (b := 0) (hx he)
      rw [Nat.zero_add, show (((x / 2).toNat : Nat) : Int) = x / 2 by omega] at hg
      have hil := ix_le fin (x / 2).toNat
      have e0 : wordB fin x = [32, 64] ++ Lib.itoa (ix fin (x / 2).toNat) := by simp [wordB, he]
      rw [e0] at hwx ⊢
      generalize ix fin (x / 2).toNat = y at *
      have hd := digI (n := (y : Int)) (by omega) (by omega)
      refine (refI x).mp3 (wrefI x) hd fun n q1 q2 q3 => ?_
      rw [eqT he] at q1
      have c3 : leI ((sB ([32, 64] ++ Lib.itoa (y : Int))).size : Int) 9223372036854775807 = true := leT (by rw [size_sB]; omega)
      have c4 : leN ((T.map fun b : UInt8 => PV.int b.toNat).length + (([32, 64] ++ Lib.itoa (y : Int)).map fun b : UInt8 => PV.int b.toNat).length) 140737488355328 = true := leNT (by simp only [List.length_map]; omega)
      simp only [L37_0, nth_0, nth_1, nth_2, nth_3, nth_4, toInt_int, toList_list, toBool_bool, toStr_str, hlen, c1, c2, iff_true', hk', hn, q1, q2, Option.bind_some, hg, q3, dgB, sh64, catB_sB, c3, s2bL_sB, c4, thenN_n, w1, ← List.map_append]
    · have e0 : wordB fin x = [32] ++ Lib.itoa (x / 2) := by simp [wordB, he]
      rw [e0] at hwx ⊢
      have hd := digI (n := x / 2) (by omega) (by omega)
      refine (refI x).mp3 (wintI x) hd fun n q1 q2 q3 => ?_
      rw [eqF he] at q1
      have c3 : leI ((sB ([32] ++ Lib.itoa (x / 2))).size : Int) 9223372036854775807 = true := leT (by rw [size_sB]; omega)
      have c4 : leN ((T.map fun b : UInt8 => PV.int b.toNat).length + (([32] ++ Lib.itoa (x / 2)).map fun b : UInt8 => PV.int b.toNat).length) 140737488355328 = true := leNT (by simp only [List.length_map]; omega)
      simp only [L37_0, nth_0, nth_1, nth_2, nth_3, nth_4, toInt_int, toList_list, toBool_bool, toStr_str, hlen, c1, c2, iff_true', iff_false', hk', hn, q1, q2, Option.bind_some, q3, dgB, ot32, catB_sB, c3, s2bL_sB, c4, thenN_n, w1, ← List.map_append]
  · rw [List.take_length]
    have c1 : ltI (l.length : Int) l.length = false := ltF (by omega)
    simp only [L37_0, nth_0, nth_1, nth_2, nth_3, nth_4, toInt_int, c1, iff_false']
theorem idxI (hf : Way P fin) (hfl : fin.length ≤ 3000) (rt hv : PV) :
    Evt fun n => loopEv (L14_0 (ev Tryz.prog sg n) n) n [.int 0, .int fin.length, rt, nats fin, .list [], hv] = some (.x 0, [rt, nats fin, .list (idL 0 fin), hv]) := by
  have hnl := natsLen fin
  have h1 := loop_run (body := fun n => L14_0 (ev Tryz.prog sg n) n) (fun k => [.int k, .int fin.length, rt, nats fin, .list (idL 0 (fin.take k)), hv]) fin.length (e := .x 0) (res := [rt, nats fin, .list (idL 0 fin), hv]) (fun k hk => Evt.all fun n => ?_) (Evt.all fun n => ?_) (by decide)
  · exact h1
  · have hn := nth_gp hk
    have hset := id_set (fin.take k) 0 (gp_new hf.nodup hk)
    rw [← take_gp hk, Nat.zero_add, List.length_take, Nat.min_eq_left (by omega)] at hset
    have c1 : ltI (k : Int) fin.length = true := ltT (by omega)
    have c2 : geI (k : Int) 0 = true := geT (by omega)
    have w1 : IntKind.i64.wrap ((k : Int) + 1) = ((k + 1 : Nat) : Int) := by rw [wrap64 (by omega) (by omega)]; omega
    have hk' : ((k : Int)).toNat = k := by omega
    simp only [L14_0, nth_0, nth_1, nth_2, nth_3, nth_4, nth_5, toInt_int, toList_list, hnl, c1, c2, iff_true', hk', hn, hset, w1]
  · rw [List.take_length]
    have c1 : ltI (fin.length : Int) fin.length = false := ltF (by omega)
    simp only [L14_0, nth_0, nth_1, nth_2, nth_3, nth_4, nth_5, toInt_int, c1, iff_false']
theorem head4 (w : Int) : (if eqI (w / 2 % 2) 1 then [102, 117, 110, 32] else [99, 111, 110, 32]) ++ Lib.itoa (w / 2 / 128) = headB w := by
  unfold headB
  split <;> simp
theorem blocksI2 (h : SOk W half base next P) (hW : W.length ≤ 1048576) (hW2 : ∀ w, w ∈ W → i64 w) (hR2 : ∀ w, w ∈ R → i64 w) (hRl : R.length ≤ 1048576) (hf : Way P fin) (hfl : fin.length ≤ 3000) (hk : ∀ q, q ∈ fin → ∀ x, x ∈ kids W q → inW fin x) :
    Evt fun n => loopEv (L14_1 (ev Tryz.prog sg n) n) n [.int 0, .int fin.length, nats fin, heapV W half base next, bytesV (shapeB W fin R []), .list (idL 0 fin)] = some (.x 2, [bytesV (shapeB W fin R fin)]) := by
  have hnl := natsLen fin
  have hWl := wordsLen W
  have h1 := loop_run (body := fun n => L14_1 (ev Tryz.prog sg n) n) (fun k => [.int k, .int fin.length, nats fin, heapV W half base next, bytesV (shapeB W fin R (fin.take k)), .list (idL 0 fin)]) fin.length (e := .x 2) (res := [bytesV (shapeB W fin R fin)]) (fun k hk' => ?_) (Evt.all fun n => ?_) (by decide)
  · exact h1
  · have hpm : gp fin k ∈ P := hf.sub _ (gp_mem hk')
    have hn := nth_gp hk'
    obtain ⟨hm1, _⟩ := h.mem _ hpm
    have hn2 := nth_gw (W := W) (i := gp fin k) (by omega)
    have hT := shapeB_len hfl hW2 hR2 hRl (fin.take k)
    have hkl : (fin.take k).length ≤ 3000 := by rw [List.length_take]; omega
    have h64 := gw_i64 hW2 (gp fin k)
    have hhl := headB_len h64
    have hkk := kids_len W (gp fin k)
    have hml := mny_lt (gw W (gp fin k))
    have hki := kidsAtI h hW hpm
    have hli := lineI hf hfl (l := kids W (gp fin k)) (fun x hx => ⟨hk _ (gp_mem hk') x hx, h.kid _ hpm x hx, kids_i64 hW2 _ x hx⟩) (by omega) (t := shapeB W fin R (fin.take k) ++ headB (gw W (gp fin k))) (by rw [List.length_append]; omega)
    have eB : shapeB W fin R (fin.take k) ++ headB (gw W (gp fin k)) ++ wordsB fin (kids W (gp fin k)) ++ [10] = shapeB W fin R (fin.take (k + 1)) := by
      rw [take_gp hk', shapeB_snoc]
      simp [blockB]
    rw [eB] at hli
    generalize shapeB W fin R (fin.take (k + 1)) = T' at *
    generalize shapeB W fin R (fin.take k) = T at *
    have hdl := head4 (gw W (gp fin k))
    obtain ⟨r1, r2⟩ := h64
    have hd := digI (n := gw W (gp fin k) / 2 / 128) (by omega) (by omega)
    have c1 : ltI (k : Int) fin.length = true := ltT (by omega)
    have c2 : geI (k : Int) 0 = true := geT (by omega)
    have c3 : geI (gp fin k : Int) 0 = true := geT (by omega)
    have c4 : ltI (gp fin k : Int) W.length = true := ltT (by omega)
    have w1 : IntKind.i64.wrap ((k : Int) + 1) = ((k + 1 : Nat) : Int) := by rw [wrap64 (by omega) (by omega)]; omega
    have hk'' : ((k : Int)).toNat = k := by omega
    have hp' : ((gp fin k : Int)).toNat = gp fin k := by omega
    have c5 : leI ((sB (headB (gw W (gp fin k)))).size : Int) 9223372036854775807 = true := leT (by rw [size_sB]; omega)
    have c6 : leN ((T.map fun b : UInt8 => PV.int b.toNat).length + ((headB (gw W (gp fin k))).map fun b : UInt8 => PV.int b.toNat).length) 140737488355328 = true := leNT (by simp only [List.length_map]; omega)
    refine Evt.mp4 (hdrI (gw W (gp fin k))) hd hki hli fun n q1 q2 q3 q4 => ?_
    cases hfn : eqI (gw W (gp fin k) / 2 % 2) 1 with
    | true =>
      rw [hfn] at q1 hdl
      simp only [if_true] at hdl
      simp only [L14_1, nth_0, nth_1, nth_2, nth_3, nth_4, nth_5, nth_6, nth_7, nth_8, toInt_int, toList_list, toBool_bool, toStr_str, fld_agg, hnl, hWl, c1, c2, c3, c4, iff_true', hk'', hn, hp', hn2, q1, q2, q3, Option.bind_some, thenN_n, dgB, shFun4, catB_sB, hdl, c5, s2bL_sB, c6, ← List.map_append, q4, w1]
    | false =>
      rw [hfn] at q1 hdl
      simp only [Bool.false_eq_true, if_false] at hdl
      simp only [L14_1, nth_0, nth_1, nth_2, nth_3, nth_4, nth_5, nth_6, nth_7, nth_8, toInt_int, toList_list, toBool_bool, toStr_str, fld_agg, hnl, hWl, c1, c2, c3, c4, iff_true', iff_false', hk'', hn, hp', hn2, q1, q2, q3, Option.bind_some, thenN_n, dgB, shCon4, catB_sB, hdl, c5, s2bL_sB, c6, ← List.map_append, q4, w1]
  · rw [List.take_length]
    have c1 : ltI (fin.length : Int) fin.length = false := ltF (by omega)
    simp only [L14_1, nth_0, nth_1, nth_2, nth_3, nth_4, nth_5, toInt_int, c1, iff_false']
theorem shapeI (h : SOk W half base next P) (hW : W.length ≤ 1048576) (hW2 : ∀ w, w ∈ W → i64 w) (hR : ∀ x, x ∈ R → there P x = true) (hR2 : ∀ w, w ∈ R → i64 w) (hRl : R.length ≤ 1048576) (hfin : fin = bfs W P.length 0 (addAll [] R)) (hf : Way P fin) (hfl : fin.length ≤ 3000) (hk : ∀ q, q ∈ fin → ∀ x, x ∈ kids W q → inW fin x) (hRf : ∀ x, x ∈ R → inW fin x) (hok : rootsB W half base next R = true) :
    Rn 14 [heapV W half base next, words R] [.str (sB (shapeB W fin R fin))] := by
  have hr := rootsI (half := half) (base := base) (next := next) (R := R) hW hRl
  rw [hok] at hr
  have hm := metI h hW hR hRl
  rw [← hfin] at hm
  have hi := idxI hf hfl (words R) (heapV W half base next)
  have hl := lineI hf hfl (l := R) (fun x hx => ⟨hRf x hx, hR x hx, hR2 x hx⟩) hRl (t := []) (by simp)
  have hb := blocksI2 h hW hW2 hR2 hRl hf hfl hk
  have e0 : [] ++ wordsB fin R ++ [10] = shapeB W fin R [] := by simp [shapeB]
  rw [e0] at hl
  have hnl := natsLen fin
  refine Is.of e14 ((Evt.and hr hm).mp4 hi hl hb fun n ⟨q1, q2⟩ q3 q4 q5 => ?_)
  have q4' : ev Tryz.prog sg n 37 [words R, .list [], .list (idL 0 fin)] = some [bytesV (shapeB W fin R []), .list (idL 0 fin)] := q4
  simp only [F14, nth_0, nth_1, nth_2, nth_3, q1, q2, Option.bind_some, toBool_bool, Bool.not_true, iff_false', toList_list, hnl, q3, thenE_some, passB_same, thenN_n, q4', q5, b2sL_map]
/-! ### .. by the reference -/
theorem wordS (hf : Way P fin) (hfl : fin.length ≤ 3000) {x : Int} (hx : inW fin x) (hP : there P x = true) (h64 : i64 x) : Rn 41 [.int x, nats fin] [.str (sB (wordB fin x))] := by
  have hwx := wordB_len hfl h64
  obtain ⟨r1, r2⟩ := h64
  by_cases he : x % 2 = 0
  · obtain ⟨x0, xP⟩ := there_ev hP he
    have hm := hx he
    have e0 : wordB fin x = [32, 64] ++ Lib.itoa (ix fin (x / 2).toNat) := by simp [wordB, he]
    rw [e0] at hwx ⊢
    have hnl := natsLen fin
    have h1 := all_loop (body := fun n => L41_0 (ev Tryz.prog sg n) n) (pay := fun i => [.int i, nats fin, .int x]) (c := fun i => !eqI (gp fin i : Int) (x / 2)) (e1 := .x 0) (r1 := []) (e2 := .r) (r2 := [.str (sB ([32, 64] ++ Lib.itoa (ix fin (x / 2).toNat)))]) fin.length (by simp) (by simp) (fun i hi hc => ?_) (fun i hi hc => ?_) (Evt.all fun n => ?_)
    · rw [range_gp (fun q => !eqI (q : Int) (x / 2)), all_not_in, inP_nat (by omega), decide_eq_true hm] at h1
      refine Is.of e41 ((refS x).mp2 h1 fun n q1 q2 => ?_)
      rw [eqT he] at q1
      simp only [show ((0 : Nat) : Int) = 0 from rfl, Bool.not_true, Bool.false_eq_true, if_false] at q2
      simp only [F41, nth_0, nth_1, q1, Option.bind_some, toBool_bool, Bool.not_true, iff_false', q2, thenE_some]
      rfl
    · have hn := nth_gp hi
      have hc' : eqI (gp fin i : Int) (x / 2) = false := by simpa using hc
      have c1 : ltI (i : Int) fin.length = true := ltT (by omega)
      have c2 : geI (i : Int) 0 = true := geT (by omega)
      have w1 : IntKind.i64.wrap ((i : Int) + 1) = ((i + 1 : Nat) : Int) := by rw [wrap64 (by omega) (by omega)]; omega
      have hk' : ((i : Int)).toNat = i := by omega
      refine (wrefS x).mp fun n q => ?_
      simp only [L41_0, nth_0, nth_1, nth_2, toInt_int, toList_list, hnl, c1, c2, iff_true', hk', hn, q, Option.bind_some, hc', iff_false', w1]
    · have hn := nth_gp hi
      have hc' : eqI (gp fin i : Int) (x / 2) = true := by simpa using hc
      have hgi : gp fin i = (x / 2).toNat := by simp [eqI] at hc'; omega
      have hix := ix_gp hf.nodup hi
      rw [hgi] at hix
      rw [hix] at hwx
      have c1 : ltI (i : Int) fin.length = true := ltT (by omega)
      have c2 : geI (i : Int) 0 = true := geT (by omega)
      have hk' : ((i : Int)).toNat = i := by omega
      have hd := digS (n := (i : Int)) (by omega) (by omega)
      have c3 : leI ((sB ([32, 64] ++ Lib.itoa (i : Int))).size : Int) 9223372036854775807 = true := leT (by rw [size_sB]; omega)
      refine (wrefS x).mp2 hd fun n q q2 => ?_
      simp only [L41_0, nth_0, nth_1, nth_2, toInt_int, toList_list, toStr_str, hnl, c1, c2, iff_true', hk', hn, q, q2, Option.bind_some, hc', dgB, sh64, catB_sB, c3, hix]
    · have c1 : ltI (fin.length : Int) fin.length = false := ltF (by omega)
      simp only [L41_0, nth_0, nth_1, nth_2, toInt_int, toList_list, hnl, c1, iff_false']
  · have e0 : wordB fin x = [32] ++ Lib.itoa (x / 2) := by simp [wordB, he]
    rw [e0] at hwx ⊢
    have hd := digS (n := x / 2) (by omega) (by omega)
    have c3 : leI ((sB ([32] ++ Lib.itoa (x / 2))).size : Int) 9223372036854775807 = true := leT (by rw [size_sB]; omega)
    refine Is.of e41 ((refS x).mp3 (wintS x) hd fun n q1 q2 q3 => ?_)
    rw [eqF he] at q1
    simp only [F41, nth_0, nth_1, q1, q2, q3, Option.bind_some, toBool_bool, toStr_str, Bool.not_false, iff_true', dgB, ot32, catB_sB, c3]
theorem rootsS2 (hf : Way P fin) (hfl : fin.length ≤ 3000) (hRf : ∀ x, x ∈ R → inW fin x ∧ there P x = true ∧ i64 x) (hRl : R.length ≤ 1048576) (hv : PV) :
    Evt fun n => loopEv (L15_0 (ev Tryz.prog sg n) n) n [.int 0, words R, .str (sB []), nats fin, hv] = some (.x 0, [.str (sB (wordsB fin R)), nats fin, hv]) := by
  have hlen := wordsLen R
  have h1 := loop_run (body := fun n => L15_0 (ev Tryz.prog sg n) n) (fun k => [.int k, words R, .str (sB (wordsB fin (R.take k))), nats fin, hv]) R.length (e := .x 0) (res := [.str (sB (wordsB fin R)), nats fin, hv]) (fun k hk => ?_) (Evt.all fun n => ?_) (by decide)
  · exact h1
  · have hn := nth_gw hk
    obtain ⟨hx, hP, h64⟩ := hRf _ (gw_mem hk)
    have hwk := wordsB_len hfl (l := R.take k) fun x hx => (hRf x (List.mem_of_mem_take hx)).2.2
    have hkl : (R.take k).length ≤ 1048576 := by rw [List.length_take]; omega
    have hwx := wordB_len hfl h64
    have hw := wordS hf hfl hx hP h64
    rw [take_gw hk, wordsB_snoc]
    have c1 : ltI (k : Int) R.length = true := ltT (by omega)
    have c2 : geI (k : Int) 0 = true := geT (by omega)
    have w1 : IntKind.i64.wrap ((k : Int) + 1) = ((k + 1 : Nat) : Int) := by rw [wrap64 (by omega) (by omega)]; omega
    have hk' : ((k : Int)).toNat = k := by omega
    have c3 : leI ((sB (wordsB fin (R.take k) ++ wordB fin (gw R k))).size : Int) 9223372036854775807 = true := leT (by rw [size_sB, List.length_append]; omega)
    refine hw.mp fun n q => ?_
    simp only [L15_0, nth_0, nth_1, nth_2, nth_3, nth_4, toInt_int, toList_list, toStr_str, hlen, c1, c2, iff_true', hk', hn, q, Option.bind_some, catB_sB, c3, w1]
  · rw [List.take_length]
    have c1 : ltI (R.length : Int) R.length = false := ltF (by omega)
    simp only [L15_0, nth_0, nth_1, nth_2, nth_3, nth_4, toInt_int, toList_list, hlen, c1, iff_false']
theorem lineS (h : SOk W half base next P) (hW : W.length ≤ 1048576) (hW2 : ∀ w, w ∈ W → i64 w) (hf : Way P fin) (hfl : fin.length ≤ 3000) (hk : ∀ q, q ∈ fin → ∀ x, x ∈ kids W q → inW fin x) {i : Nat} (hi : i < fin.length) {t : List UInt8} (ht : t.length ≤ 1000000000) :
    Evt fun n => loopEv (L15_1 (ev Tryz.prog sg n) n) n [.int 1, .int (mny (gw W (gp fin i))), .str (sB t), .int i, nats fin, heapV W half base next] = some (.x 4, [.str (sB (t ++ wordsB fin (kids W (gp fin i)))), .int i, nats fin, heapV W half base next]) := by
  have hpm : gp fin i ∈ P := hf.sub _ (gp_mem hi)
  have hn1 := nth_gp hi
  have hnl := natsLen fin
  have hWl := wordsLen W
  obtain ⟨hm1, _⟩ := h.mem _ hpm
  have hki : ∀ x, x ∈ kids W (gp fin i) → inW fin x ∧ there P x = true ∧ i64 x := fun x hx => ⟨hk _ (gp_mem hi) x hx, h.kid _ hpm x hx, kids_i64 hW2 _ x hx⟩
  generalize gp fin i = p at *
  have hkl := kids_len W p
  have hml := mny_lt (gw W p)
  have h1 := loop_run (body := fun n => L15_1 (ev Tryz.prog sg n) n) (fun k => [.int (k + 1 : Nat), .int (mny (gw W p)), .str (sB (t ++ wordsB fin ((kids W p).take k))), .int i, nats fin, heapV W half base next]) (kids W p).length (e := .x 4) (res := [.str (sB (t ++ wordsB fin (kids W p))), .int i, nats fin, heapV W half base next]) (fun k hk' => ?_) (Evt.all fun n => ?_) (by decide)
  · have e0 : t ++ wordsB fin ((kids W p).take 0) = t := by simp [wordsB]
    rw [e0] at h1
    exact h1
  · obtain ⟨hx, hP, h64⟩ := hki _ (gw_mem hk')
    have hkg := kids_gw (W := W) (p := p) (k := k) (by omega)
    have hn := nth_gw (W := W) (i := p + 1 + k) (by omega)
    rw [← hkg] at hn
    have hwk := wordsB_len hfl (l := (kids W p).take k) fun x hx => (hki x (List.mem_of_mem_take hx)).2.2
    have hkl2 : ((kids W p).take k).length ≤ 64 := by rw [List.length_take]; omega
    have hwx := wordB_len hfl h64
    have hw := wordS hf hfl hx hP h64
    rw [take_gw hk', wordsB_snoc, ← List.append_assoc]
    have c1 : leI ((k + 1 : Nat) : Int) (mny (gw W p)) = true := leT (by omega)
    have c2 : geI (i : Int) 0 = true := geT (by omega)
    have c3 : ltI (i : Int) fin.length = true := ltT (by omega)
    have w2 : IntKind.i64.wrap ((p : Int) + ((k + 1 : Nat) : Int)) = ((p + 1 + k : Nat) : Int) := by rw [wrap64 (by omega) (by omega)]; omega
    have c4 : geI ((p + 1 + k : Nat) : Int) 0 = true := geT (by omega)
    have c5 : ltI ((p + 1 + k : Nat) : Int) W.length = true := ltT (by omega)
    have w1 : IntKind.i64.wrap (((k + 1 : Nat) : Int) + 1) = ((k + 1 + 1 : Nat) : Int) := by rw [wrap64 (by omega) (by omega)]; omega
    have hi' : ((i : Int)).toNat = i := by omega
    have hpk : (((p + 1 + k : Nat) : Int)).toNat = p + 1 + k := by omega
    have c6 : leI ((sB (t ++ wordsB fin ((kids W p).take k) ++ wordB fin (gw (kids W p) k))).size : Int) 9223372036854775807 = true := leT (by rw [size_sB, List.length_append, List.length_append]; omega)
    refine hw.mp fun n q => ?_
    simp only [L15_1, nth_0, nth_1, nth_2, nth_3, nth_4, nth_5, toInt_int, toList_list, toStr_str, fld_agg, hnl, hWl, c1, c2, c3, iff_true', hi', hn1, w2, c4, c5, hpk, hn, q, Option.bind_some, catB_sB, c6, w1]
  · rw [List.take_length]
    have c1 : leI (((kids W p).length + 1 : Nat) : Int) (mny (gw W p)) = false := leF (by omega)
    simp only [L15_1, nth_0, nth_1, nth_2, nth_3, nth_4, nth_5, toInt_int, c1, iff_false']
theorem blocksS2 (h : SOk W half base next P) (hW : W.length ≤ 1048576) (hW2 : ∀ w, w ∈ W → i64 w) (hR2 : ∀ w, w ∈ R → i64 w) (hRl : R.length ≤ 1048576) (hf : Way P fin) (hfl : fin.length ≤ 3000) (hk : ∀ q, q ∈ fin → ∀ x, x ∈ kids W q → inW fin x) :
    Evt fun n => loopEv (L15_2 (ev Tryz.prog sg n) n) n [.int 0, nats fin, .str (sB (shapeB W fin R [])), heapV W half base next] = some (.x 2, [.str (sB (shapeB W fin R fin))]) := by
  have hnl := natsLen fin
  have hWl := wordsLen W
  have h1 := loop_run (body := fun n => L15_2 (ev Tryz.prog sg n) n) (fun k => [.int k, nats fin, .str (sB (shapeB W fin R (fin.take k))), heapV W half base next]) fin.length (e := .x 2) (res := [.str (sB (shapeB W fin R fin))]) (fun k hk' => ?_) (Evt.all fun n => ?_) (by decide)
  · exact h1
  · have hpm : gp fin k ∈ P := hf.sub _ (gp_mem hk')
    have hn := nth_gp hk'
    obtain ⟨hm1, hok⟩ := h.mem _ hpm
    have hn2 := nth_gw (W := W) (i := gp fin k) (by omega)
    have hT := shapeB_len hfl hW2 hR2 hRl (fin.take k)
    have hkl : (fin.take k).length ≤ 3000 := by rw [List.length_take]; omega
    have h64 := gw_i64 hW2 (gp fin k)
    have hhl := headB_len h64
    have hkk := kids_len W (gp fin k)
    have hml := mny_lt (gw W (gp fin k))
    have hwl := wordsB_len hfl (kids_i64 hW2 (gp fin k))
    have hli := lineS h hW hW2 hf hfl hk hk' (t := shapeB W fin R (fin.take k) ++ headB (gw W (gp fin k))) (by rw [List.length_append]; omega)
    have eB : shapeB W fin R (fin.take k) ++ headB (gw W (gp fin k)) ++ wordsB fin (kids W (gp fin k)) ++ [10] = shapeB W fin R (fin.take (k + 1)) := by
      rw [take_gp hk', shapeB_snoc]
      simp [blockB]
    have cB : leI ((sB (shapeB W fin R (fin.take k) ++ headB (gw W (gp fin k)) ++ wordsB fin (kids W (gp fin k)) ++ [10])).size : Int) 9223372036854775807 = true := leT (by simp only [size_sB, List.length_append, List.length_cons, List.length_nil]; omega)
    rw [eB] at cB
    obtain ⟨o1, o2, _⟩ := okHd_out hok
    obtain ⟨r1, r2⟩ := h64
    have htg := tagS_eq (w := gw W (gp fin k)) (by omega) r2
    have ho := ofS (gw W (gp fin k))
    rw [htg] at ho
    have hd := digS (n := gw W (gp fin k) / 2 / 128) (by omega) (by omega)
    have c1 : ltI (k : Int) fin.length = true := ltT (by omega)
    have c2 : geI (k : Int) 0 = true := geT (by omega)
    have c3 : geI (gp fin k : Int) 0 = true := geT (by omega)
    have c4 : ltI (gp fin k : Int) W.length = true := ltT (by omega)
    have w1 : IntKind.i64.wrap ((k : Int) + 1) = ((k + 1 : Nat) : Int) := by rw [wrap64 (by omega) (by omega)]; omega
    have hk'' : ((k : Int)).toNat = k := by omega
    have hp' : ((gp fin k : Int)).toNat = gp fin k := by omega
    have l2 := itoa_len (n := gw W (gp fin k) / 2 / 128) (by omega) (by omega)
    refine Evt.mp3 ho hd hli fun n q1 q2 q3 => ?_
    generalize shapeB W fin R (fin.take (k + 1)) = T' at *
    generalize shapeB W fin R (fin.take k) = T at *
    cases hfn : eqI (gw W (gp fin k) / 2 % 2) 1 with
    | true =>
      have eh : T ++ headB (gw W (gp fin k)) = T ++ [102, 117, 110] ++ [32] ++ Lib.itoa (gw W (gp fin k) / 2 / 128) := by simp [headB, hfn]
      rw [eh] at q3 eB
      rw [hfn] at q1
      simp (disch := ((try simp only [size_sB, List.length_append, List.length_cons, List.length_nil]); omega)) only [L15_2, nth_0, nth_1, nth_2, nth_3, nth_4, nth_5, toInt_int, toList_list, toBool_bool, toStr_str, fld_agg, hnl, hWl, c1, c2, c3, c4, iff_true', hk'', hn, hp', hn2, q1, q2, Option.bind_some, thenN_n, dgB, shFun3, ot32, ot10, catB_sB, leT, q3, thenE_some, passB_same, w1]
      rw [eB]
    | false =>
      have eh : T ++ headB (gw W (gp fin k)) = T ++ [99, 111, 110] ++ [32] ++ Lib.itoa (gw W (gp fin k) / 2 / 128) := by simp [headB, hfn]
      rw [eh] at q3 eB
      rw [hfn] at q1
      simp (disch := ((try simp only [size_sB, List.length_append, List.length_cons, List.length_nil]); omega)) only [L15_2, nth_0, nth_1, nth_2, nth_3, nth_4, nth_5, toInt_int, toList_list, toBool_bool, toStr_str, fld_agg, hnl, hWl, c1, c2, c3, c4, iff_true', iff_false', hk'', hn, hp', hn2, q1, q2, Option.bind_some, thenN_n, dgB, shCon3, ot32, ot10, catB_sB, leT, q3, thenE_some, passB_same, w1]
      rw [eB]
  · rw [List.take_length]
    have c1 : ltI (fin.length : Int) fin.length = false := ltF (by omega)
    simp only [L15_2, nth_0, nth_1, nth_2, nth_3, toInt_int, toList_list, hnl, c1, iff_false']
theorem shapeS (h : SOk W half base next P) (hW : W.length ≤ 1048576) (hW2 : ∀ w, w ∈ W → i64 w) (hR : ∀ x, x ∈ R → there P x = true) (hR2 : ∀ w, w ∈ R → i64 w) (hRl : R.length ≤ 1048576) (hfin : fin = bfs W P.length 0 (addAll [] R)) (hf : Way P fin) (hfl : fin.length ≤ 3000) (hk : ∀ q, q ∈ fin → ∀ x, x ∈ kids W q → inW fin x) (hRf : ∀ x, x ∈ R → inW fin x) (hok : Rn 31 [heapV W half base next, words R] [.bool true]) :
    Rn 15 [heapV W half base next, words R] [.str (sB (shapeB W fin R fin))] := by
  have ho := orderS h hW hR hRl
  rw [← hfin] at ho
  have hr := rootsS2 hf hfl (fun x hx => ⟨hRf x hx, hR x hx, hR2 x hx⟩) hRl (heapV W half base next)
  have hb := blocksS2 h hW hW2 hR2 hRl hf hfl hk
  have e0 : wordsB fin R ++ [10] = shapeB W fin R [] := by simp [shapeB]
  have hT := shapeB_len hfl hW2 hR2 hRl []
  have c1 : leI ((sB (shapeB W fin R [])).size : Int) 9223372036854775807 = true := leT (by rw [size_sB]; simp at hT; omega)
  refine Is.of e15 (hok.mp4 ho hr hb fun n q1 q2 q3 q4 => ?_)
  simp only [F15, nth_0, nth_1, nth_2, q1, q2, Option.bind_some, toBool_bool, Bool.not_true, iff_false', toStr_str, ot0, q3, thenE_some, passB_same, thenN_n, ot10, catB_sB, e0, c1, iff_true', q4]
end
/-! ### Into a row in order -/
def insN (n : Nat) (l : List Nat) : List Nat := l.takeWhile (· < n) ++ n :: l.dropWhile (· < n)
theorem insN_perm (n : Nat) (l : List Nat) : (insN n l).Perm (n :: l) := by
  unfold insN
  conv => rhs; rw [← List.takeWhile_append_dropWhile (p := fun x => decide (x < n)) (l := l)]
  exact List.perm_middle
theorem insN_sorted {n : Nat} : ∀ {l : List Nat}, l.Pairwise (· ≤ ·) → (insN n l).Pairwise (· ≤ ·)
  | [], _ => by simp [insN]
  | a :: l, h => by
    by_cases hc : a < n
    · have e : insN n (a :: l) = a :: insN n l := by simp [insN, hc]
      rw [e]
      have h2 := List.pairwise_cons.1 h
      refine List.pairwise_cons.2 ⟨fun x hx => ?_, insN_sorted h2.2⟩
      rcases List.mem_cons.1 ((insN_perm n l).subset hx) with rfl | hx
      · omega
      · exact h2.1 x hx
    · have e : insN n (a :: l) = n :: a :: l := by simp [insN, hc]
      rw [e]
      refine List.pairwise_cons.2 ⟨fun x hx => ?_, h⟩
      rcases List.mem_cons.1 hx with rfl | hx
      · omega
      · have := (List.pairwise_cons.1 h).1 x hx; omega
def insAll (l : List Nat) : List Nat := l.foldl (fun s n => insN n s) []
theorem foldIns : ∀ (l s : List Nat), s.Pairwise (· ≤ ·) → (l.foldl (fun s n => insN n s) s).Perm (s ++ l) ∧ (l.foldl (fun s n => insN n s) s).Pairwise (· ≤ ·)
  | [], s, h => ⟨by simp, h⟩
  | n :: l, s, h => by
    obtain ⟨h1, h2⟩ := foldIns l (insN n s) (insN_sorted h)
    refine ⟨h1.trans ?_, h2⟩
    refine ((insN_perm n s).append_right l).trans ?_
    simpa using (List.perm_middle (a := n) (l₁ := s) (l₂ := l)).symm
theorem sort_nats (l : List Nat) : sortL (l.map fun p : Nat => PV.int (p : Int)) = (insAll l).map fun p : Nat => PV.int (p : Int) := by
  obtain ⟨h1, h2⟩ := foldIns l [] List.Pairwise.nil
  have e1 : (l.map fun p : Nat => PV.int (p : Int)).map PV.toInt = l.map fun p : Nat => (p : Int) := by
    rw [List.map_map]; rfl
  have e2 : (insAll l).map (fun p : Nat => PV.int (p : Int)) = ((insAll l).map fun p : Nat => (p : Int)).map PV.int := by
    rw [List.map_map]; rfl
  unfold sortL
  rw [e1, e2]
  congr 1
  refine List.Perm.eq_of_pairwise (le := fun a b : Int => decide (a ≤ b) = true) (fun a b _ _ h h' => ?_) (List.pairwise_mergeSort (fun a b c h h' => ?_) (fun a b => ?_) _) ?_ ?_
  · simp at h h'; omega
  · simp at h h' ⊢; omega
  · simp; omega
  · rw [List.pairwise_map]
    exact h2.imp fun h => by simpa using h
  · refine (List.mergeSort_perm _ _).trans ?_
    refine List.Perm.map _ ?_
    rw [List.nil_append] at h1
    exact h1.symm
theorem insN_eq (n : Nat) (s : List Nat) : insN n s = s.take (s.takeWhile (· < n)).length ++ n :: s.drop (s.takeWhile (· < n)).length := by
  have h := List.takeWhile_append_dropWhile (p := fun x => decide (x < n)) (l := s)
  have h1 : s.take (s.takeWhile fun x => decide (x < n)).length = s.takeWhile fun x => decide (x < n) := by
    have : (s.takeWhile (fun x => decide (x < n)) ++ s.dropWhile fun x => decide (x < n)).take (s.takeWhile fun x => decide (x < n)).length = s.takeWhile fun x => decide (x < n) := List.take_left
    rwa [h] at this
  have h2 : s.drop (s.takeWhile fun x => decide (x < n)).length = s.dropWhile fun x => decide (x < n) := by
    have : (s.takeWhile (fun x => decide (x < n)) ++ s.dropWhile fun x => decide (x < n)).drop (s.takeWhile fun x => decide (x < n)).length = s.dropWhile fun x => decide (x < n) := List.drop_left
    rwa [h] at this
  rw [h1, h2]
  rfl
theorem tw_at {n : Nat} : ∀ {s : List Nat} {i : Nat}, i < (s.takeWhile fun x => decide (x < n)).length → gp s i < n
  | a :: s, i, h => by
    by_cases hc : a < n
    · have e : (a :: s).takeWhile (fun x => decide (x < n)) = a :: s.takeWhile fun x => decide (x < n) := by simp [hc]
      rw [e, List.length_cons] at h
      cases i with
      | zero => simpa [gp] using hc
      | succ i =>
        have := tw_at (n := n) (s := s) (i := i) (by omega)
        simpa [gp] using this
    · have e : (a :: s).takeWhile (fun x => decide (x < n)) = [] := by simp [hc]
      rw [e] at h
      simp at h
  | [], i, h => by simp at h
theorem tw_end {n : Nat} : ∀ {s : List Nat}, (s.takeWhile fun x => decide (x < n)).length < s.length → ¬ gp s (s.takeWhile fun x => decide (x < n)).length < n
  | a :: s, h => by
    by_cases hc : a < n
    · have e : (a :: s).takeWhile (fun x => decide (x < n)) = a :: s.takeWhile fun x => decide (x < n) := by simp [hc]
      rw [e, List.length_cons, List.length_cons] at h
      rw [e, List.length_cons]
      have := tw_end (n := n) (s := s) (by omega)
      simpa [gp] using this
    · have e : (a :: s).takeWhile (fun x => decide (x < n)) = [] := by simp [hc]
      rw [e]
      simpa [gp] using hc
  | [], h => by simp at h
theorem tw_le (n : Nat) (s : List Nat) : (s.takeWhile (· < n)).length ≤ s.length := (List.takeWhile_sublist _).length_le
theorem withS {s : List Nat} (hs : s.length ≤ 1048576) {n : Nat} (hn : n ∉ s) (hn2 : n ≤ 1048576) : Rn 64 [nats s, .int n] [nats (insN n s)] := by
  have hnl := natsLen s
  have hh := hasS s n hs
  have h0 : inP s (n : Int) = false := by
    cases hc : inP s (n : Int) with
    | false => rfl
    | true =>
      obtain ⟨p, hp, e⟩ := inP_iff.1 hc
      exact absurd (show n ∈ s by rw [show n = p by omega]; exact hp) hn
  rw [h0] at hh
  have htl := tw_le n s
  have hta : ∀ i, i < (s.takeWhile (· < n)).length → gp s i < n := fun i hi => tw_at hi
  have hte := tw_end (n := n) (s := s)
  have he := insN_eq n s
  generalize (s.takeWhile (· < n)).length = at_ at *
  have h1 := loop_run (body := fun m => L64_0 (ev Tryz.prog sg m) m) (fun i => [.int n, nats s, .int i]) at_ (e := .x 0) (res := [.int n, nats s, .int at_]) (fun i hi => Evt.all fun m => ?_) (Evt.all fun m => ?_) (by decide)
  · refine Is.of e64 (hh.mp2 h1 fun m q1 q2 => ?_)
    have q2' : loopEv (L64_0 (ev Tryz.prog sg m) m) m [.int n, nats s, .int 0] = some (.x 0, [.int n, nats s, .int at_]) := q2
    have e0 : nats (insN n s) = .list ((s.map fun p : Nat => PV.int (p : Int)).take at_ ++ [PV.int n] ++ (s.map fun p : Nat => PV.int (p : Int)).drop at_) := by
      rw [he]
      simp [List.map_append, List.map_take, List.map_drop]
    rw [e0]
    have hdl : ((s.map fun p : Nat => PV.int (p : Int)).drop at_).take (s.length - at_) = (s.map fun p : Nat => PV.int (p : Int)).drop at_ := List.take_of_length_le (by rw [List.length_drop, hnl]; exact Nat.le_refl _)
    have hat : ((at_ : Int)).toNat = at_ := by omega
    have hsl : ((s.length : Int)).toNat = s.length := by omega
    have c1 : leI 0 (at_ : Int) = true := leT (by omega)
    have c2 : leI (at_ : Int) s.length = true := leT (by omega)
    have c3 : geI (at_ : Int) 0 = true := geT (by omega)
    have c4 : leI (s.length : Int) s.length = true := leT (by omega)
    have c5 : geI 0 0 = true := rfl
    have c6 : leN (([] : List PV).length + ((s.map fun p : Nat => PV.int (p : Int)).take at_).length) 17592186044416 = true := leNT (by rw [List.length_take, hnl, List.length_nil]; omega)
    have c7 : leN (((s.map fun p : Nat => PV.int (p : Int)).take at_).length + [PV.int n].length) 17592186044416 = true := leNT (by rw [List.length_take, hnl]; simp; omega)
    have c8 : leN (((s.map fun p : Nat => PV.int (p : Int)).take at_ ++ [PV.int n]).length + ((s.map fun p : Nat => PV.int (p : Int)).drop at_).length) 17592186044416 = true := leNT (by rw [List.length_append, List.length_take, List.length_drop, hnl]; simp; omega)
    simp only [F64, nth_0, nth_1, nth_2, q1, Option.bind_some, toBool_bool, iff_false', q2', thenE_some, passB_same, thenN_n, toInt_int, toList_list, hnl, c5, c1, c2, c3, c4, iff_true', hat, hsl, Int.toNat_zero, Nat.sub_zero, List.drop_zero, c6, List.nil_append, c7, hdl, c8]
  · have hg := hta i hi
    have hn1 := nth_gp (P := s) (i := i) (by omega)
    have c1 : ltI (i : Int) s.length = true := ltT (by omega)
    have c2 : geI (i : Int) 0 = true := geT (by omega)
    have c3 : ltI (gp s i : Int) n = true := ltT (by omega)
    have w1 : IntKind.i64.wrap ((i : Int) + 1) = ((i + 1 : Nat) : Int) := by rw [wrap64 (by omega) (by omega)]; omega
    have hk' : ((i : Int)).toNat = i := by omega
    simp only [L64_0, nth_0, nth_1, nth_2, toInt_int, toList_list, toBool_bool, hnl, c1, beq_self_eq_true, selB_true, c2, iff_true', hk', hn1, Option.bind_some, c3, w1]
  · by_cases hlt : at_ < s.length
    · have hg := hte hlt
      have hn1 := nth_gp (P := s) (i := at_) (by omega)
      have c1 : ltI (at_ : Int) s.length = true := ltT (by omega)
      have c2 : geI (at_ : Int) 0 = true := geT (by omega)
      have c3 : ltI (gp s at_ : Int) n = false := ltF (by omega)
      have hk' : ((at_ : Int)).toNat = at_ := by omega
      simp only [L64_0, nth_0, nth_1, nth_2, toInt_int, toList_list, toBool_bool, hnl, c1, beq_self_eq_true, selB_true, c2, iff_true', iff_false', hk', hn1, Option.bind_some, c3]
    · have c1 : ltI (at_ : Int) s.length = false := ltF (by omega)
      simp [L64_0, hnl, c1]
theorem insS {s : List Nat} (hs : s.length ≤ 1048576) {n : Nat} (hn : n ∉ s) (hn2 : n ≤ 1048576) : Rn 36 [nats s, .int n] [nats (insN n s)] :=
  Is.of e36 ((withS hs hn hn2).mp fun m q => by simp only [F36, nth_0, nth_1, q, Option.bind_some])
section
variable {W R : List Int} {half base next : Int} {P fin : List Nat}
theorem insTake {fin : List Nat} (hn : fin.Nodup) (k : Nat) : ((fin.take k).foldl (fun s n => insN n s) []).length = (fin.take k).length ∧ (∀ n, n ∈ (fin.take k).foldl (fun s n => insN n s) [] → n ∈ fin.take k) := by
  obtain ⟨h1, _⟩ := foldIns (fin.take k) [] List.Pairwise.nil
  rw [List.nil_append] at h1
  exact ⟨h1.length_eq, fun n h => h1.subset h⟩
theorem reachLoop (hn : fin.Nodup) (hb : ∀ p, p ∈ fin → p ≤ 6000) (hfl : fin.length ≤ 3000) :
    Evt fun n => loopEv (L13_0 (ev Tryz.prog sg n) n) n [.int 0, nats fin, .list []] = some (.x 0, [nats (insAll fin)]) := by
  have hnl := natsLen fin
  have h1 := loop_run (body := fun n => L13_0 (ev Tryz.prog sg n) n) (fun k => [.int k, nats fin, nats ((fin.take k).foldl (fun s n => insN n s) [])]) fin.length (e := .x 0) (res := [nats (insAll fin)]) (fun k hk => ?_) (Evt.all fun n => ?_) (by decide)
  · exact h1
  · obtain ⟨l1, l2⟩ := insTake hn k
    have hn1 := nth_gp hk
    have hkl : (fin.take k).length ≤ 3000 := by rw [List.length_take]; omega
    have hb1 := hb _ (gp_mem hk)
    have hin := insS (s := (fin.take k).foldl (fun s n => insN n s) []) (n := gp fin k) (by omega) (fun hm => gp_new hn hk (l2 _ hm)) (by omega)
    rw [take_gp hk, List.foldl_append]
    have c1 : ltI (k : Int) fin.length = true := ltT (by omega)
    have c2 : geI (k : Int) 0 = true := geT (by omega)
    have w1 : IntKind.i64.wrap ((k : Int) + 1) = ((k + 1 : Nat) : Int) := by rw [wrap64 (by omega) (by omega)]; omega
    have hk' : ((k : Int)).toNat = k := by omega
    refine hin.mp fun n q => ?_
    simp only [L13_0, nth_0, nth_1, nth_2, toInt_int, toList_list, hnl, c1, c2, iff_true', hk', hn1, q, Option.bind_some, w1, List.foldl_cons, List.foldl_nil]
  · rw [List.take_length]
    have c1 : ltI (fin.length : Int) fin.length = false := ltF (by omega)
    simp only [L13_0, nth_0, nth_1, nth_2, toInt_int, toList_list, hnl, c1, iff_false']
    rfl
theorem sortI (hfl : fin.length ≤ 3000) : Rn 34 [nats fin] [nats (insAll fin)] := orc_is (s := sortSig 3) rfl rfl (by
  have hnl := natsLen fin
  show (if Nat.ble (fin.map fun p : Nat => PV.int (p : Int)).length 140737488355328 = true then some [PV.list (sortL (fin.map fun p : Nat => PV.int (p : Int)))] else none) = some [nats (insAll fin)]
  rw [if_pos (Nat.ble_eq_true_of_le (by rw [hnl]; omega)), sort_nats])
def reachB (W : List Int) (half base next : Int) (R : List Int) : List Nat := if rootsB W half base next R then insAll (bfs W (plcs W base next).length 0 (addAll [] R)) else []
theorem reachIS (hW : W.length ≤ 1048576) (hW2 : ∀ w, w ∈ W → -9223372036854775808 ≤ w ∧ w < 9223372036854775808) (hR : R.length ≤ 1048576) :
    Rn 12 [heapV W half base next, words R] [nats (reachB W half base next R)] ∧ Rn 13 [heapV W half base next, words R] [nats (reachB W half base next R)] ∧ (reachB W half base next R).length ≤ 3000 ∧ ∀ p, p ∈ reachB W half base next R → p ≤ 6000 := by
  have ri := rootsI (half := half) (base := base) (next := next) hW hR
  have rs := rightS (half := half) (base := base) (next := next) hW hW2 hR
  have er : (heapB W half base next && allP (plcs W base next) R) = rootsB W half base next R := rfl
  rw [er] at rs
  cases hc : rootsB W half base next R with
  | false =>
    rw [hc] at ri rs
    have e0 : reachB W half base next R = [] := by simp [reachB, hc]
    rw [e0]
    refine ⟨Is.of e12 (ri.mp fun n q => ?_), Is.of e13 (rs.mp fun n q => ?_), by simp, by simp⟩
    · simp only [F12, nth_0, nth_1, q, Option.bind_some, toBool_bool, Bool.not_false, iff_true']
      rfl
    · simp only [F13, nth_0, nth_1, q, Option.bind_some, toBool_bool, Bool.not_false, iff_true']
      rfl
  | true =>
    have hcc := hc
    simp only [rootsB, Bool.and_eq_true] at hcc
    have hs := sok hcc.1
    have hRP : ∀ x, x ∈ R → there (plcs W base next) x = true := List.all_eq_true.1 hcc.2
    obtain ⟨f1, f2, f3, f4⟩ := fin_ok hs hRP
    rw [hc] at ri rs
    have hm := metI hs hW hRP hR
    have ho := orderS hs hW hRP hR
    have e0 : reachB W half base next R = insAll (bfs W (plcs W base next).length 0 (addAll [] R)) := by simp [reachB, hc]
    rw [e0]
    have hb : ∀ p, p ∈ bfs W (plcs W base next).length 0 (addAll [] R) → p ≤ 6000 := fun p hp => by
      have h1 := (hs.mem p (f1.sub p hp)).1
      have := hs.pre.rng
      omega
    generalize bfs W (plcs W base next).length 0 (addAll [] R) = fin at *
    have hl := reachLoop f1.nodup hb f4
    obtain ⟨h1, _⟩ := foldIns fin [] List.Pairwise.nil
    rw [List.nil_append] at h1
    refine ⟨Is.of e12 (ri.mp3 hm (sortI f4) fun n q1 q2 q3 => ?_), Is.of e13 (rs.mp3 ho hl fun n q1 q2 q3 => ?_), ?_, fun p hp => hb p (h1.subset hp)⟩
    · simp only [F12, nth_0, nth_1, q1, q2, q3, Option.bind_some, toBool_bool, Bool.not_true, iff_false']
    · simp only [F13, nth_0, nth_1, q1, q2, q3, Option.bind_some, toBool_bool, Bool.not_true, iff_false', thenE_some, passB_same, thenN_n]
    · rw [show (insAll fin).length = fin.length from h1.length_eq]; exact f4
end
end Go.Proofs.YthmhgnnaihkjaaaGreatDoor.GFnMoved
