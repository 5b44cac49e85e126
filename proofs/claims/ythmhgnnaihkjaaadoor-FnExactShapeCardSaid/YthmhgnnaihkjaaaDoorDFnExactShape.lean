/- What functions of the program and of the reference come to, for the law FnExactShape. Each under the conditions that it names. -/
import Derived.Test.YthmhgnnaihkjaaaDoorCFnExactShape
namespace Go.Proofs.YthmhgnnaihkjaaaDoor.GFnExactShape
open Go Go.Rsc Go.Proofs.YthmhgnnaihkjaaaDoor
set_option maxRecDepth 100000
set_option linter.unusedVariables false
set_option linter.unusedSimpArgs false
/-! ### Blocks that are come to, as the reference finds them -/
theorem range_gp (f : Nat → Bool) (P : List Nat) : ((List.range P.length).all fun i => f (gp P i)) = P.all f := by
  rw [Bool.eq_iff_iff, List.all_eq_true, List.all_eq_true]
  constructor
  · intro h x hx
    obtain ⟨i, hi, rfl⟩ := List.getElem_of_mem hx
    have := h i (by simpa using hi)
    simpa [gp, List.getD_eq_getElem?_getD, hi] using this
  · intro h i hi
    have hi : i < P.length := by simpa using hi
    exact h _ (gp_mem hi)
theorem all_not_in (p : Int) : ∀ P : List Nat, (P.all fun q : Nat => !eqI (q : Int) p) = !inP P p
  | [] => rfl
  | q :: P => by
    have := all_not_in p P
    simp only [inP] at this ⊢
    simp only [List.all_cons, List.any_cons, this, Bool.not_or]
theorem inP_nat {P : List Nat} {p : Int} (h : 0 ≤ p) : inP P p = decide (p.toNat ∈ P) := by
  rw [Bool.eq_iff_iff, inP_iff, decide_eq_true_eq]
  constructor
  · rintro ⟨q, hq, e⟩
    rw [show p.toNat = q by omega]
    exact hq
  · exact fun h2 => ⟨_, h2, by omega⟩
theorem has7 (was : List Nat) (p : Int) (hl : was.length ≤ 1048576) : Rn 61 [nats was, .int p] [.bool (inP was p)] :=
  Is.of e61 ((hasS was p hl).mp fun n q => by simp [F61, q])
theorem natsOne (was : List Nat) {x : Int} (h0 : 0 ≤ x) : (was.map fun p : Nat => PV.int (p : Int)) ++ [PV.int (x / 2)] = (was ++ [(x / 2).toNat]).map fun p : Nat => PV.int (p : Int) := by
  rw [← natsSnoc, show (((x / 2).toNat : Nat) : Int) = x / 2 by omega]
theorem take_gw {l : List Int} {k : Nat} (hk : k < l.length) : l.take (k + 1) = l.take k ++ [gw l k] := by
  rw [List.take_add_one, List.getElem?_eq_getElem hk]
  simp [gw, List.getD_eq_getElem?_getD, hk]
theorem gw_mem {l : List Int} {k : Nat} (hk : k < l.length) : gw l k ∈ l := by simp [gw, List.getD_eq_getElem?_getD, hk]
theorem ordA {P : List Nat} (hP : P.length ≤ 3000) {R : List Int} (hR : ∀ x, x ∈ R → there P x = true) (hRl : R.length ≤ 1048576) (hv : PV) :
    Evt fun n => loopEv (L32_0 (ev Tryd.prog sg n) n) n [.int 0, words R, .list [], hv] = some (.x 0, [nats (addAll [] R), hv]) := by
  have hlen := wordsLen R
  have h1 := loop_run (body := fun n => L32_0 (ev Tryd.prog sg n) n) (fun k => [.int k, words R, nats (addAll [] (R.take k)), hv]) R.length (e := .x 0) (res := [nats (addAll [] R), hv]) (fun k hk => ?_) (Evt.all fun n => ?_) (by decide)
  · exact h1
  · have hn := nth_gw hk
    have hx := hR _ (gw_mem hk)
    rw [take_gw hk, addAll_snoc]
    have hway : Way P (addAll [] (R.take k)) := addAll_way ⟨List.nodup_nil, by simp⟩ fun x hx => hR x (List.mem_of_mem_take hx)
    have hwl := len_sub hway.nodup hway.sub
    generalize addAll [] (R.take k) = was1 at hway hwl
    generalize gw R k = x at hn hx
    have c1 : ltI (k : Int) R.length = true := ltT (by omega)
    have c2 : geI (k : Int) 0 = true := geT (by omega)
    have w1 : IntKind.i64.wrap ((k : Int) + 1) = ((k + 1 : Nat) : Int) := by rw [wrap64 (by omega) (by omega)]; omega
    have hk' : ((k : Int)).toNat = k := by omega
    by_cases he : x % 2 = 0
    · obtain ⟨x0, xP⟩ := there_ev hx he
      have hin := inP_nat (P := was1) (p := x / 2) (by omega)
      by_cases hm : (x / 2).toNat ∈ was1
      · have e2 : addW was1 x = was1 := by simp [addW, hm]
        rw [e2]
        refine (refS x).mp3 (wrefS x) (has7 was1 (x / 2) (by omega)) fun n q q2 q3 => ?_
        rw [eqT he] at q
        rw [hin, decide_eq_true hm] at q3
        simp [L32_0, hlen, c1, c2, hk', hn, q, q2, q3, w1]
      · have e2 : addW was1 x = was1 ++ [(x / 2).toNat] := by simp [addW, hm, he]
        rw [e2]
        have e3 := natsOne was1 x0
        have c3 : leN ((was1.map fun p : Nat => PV.int (p : Int)).length + [PV.int (x / 2)].length) 17592186044416 = true := leNT (by simp; omega)
        refine (refS x).mp3 (wrefS x) (has7 was1 (x / 2) (by omega)) fun n q q2 q3 => ?_
        rw [eqT he] at q
        rw [hin, decide_eq_false hm] at q3
        simp only [L32_0, nth_0, nth_1, nth_2, nth_3, toInt_int, toList_list, toBool_bool, hlen, c1, iff_true', c2, hk', hn, q, q2, q3, Option.bind_some, isB_bool, selB_true, beq_self_eq_true, Bool.not_false, c3, e3, thenN_n, w1]
    · have e2 : addW was1 x = was1 := by simp [addW, he]
      rw [e2]
      refine (refS x).mp fun n q => ?_
      rw [eqF he] at q
      simp [L32_0, hlen, c1, c2, hk', hn, q, w1]
  · rw [List.take_length]
    have c1 : ltI (R.length : Int) R.length = false := ltF (by omega)
    simp only [L32_0, nth_0, nth_1, nth_2, nth_3, toInt_int, toList_list, hlen, c1, iff_false']
section
variable {W R : List Int} {half base next : Int} {P : List Nat}
theorem ordB (h : SOk W half base next P) (hW : W.length ≤ 1048576) {p : Nat} (hp : p ∈ P) {was : List Nat} (hw : Way P was) {i : Nat} (hi : i < was.length) (hg : gp was i = p) :
    Evt fun n => loopEv (L32_1 (ev Tryd.prog sg n) n) n [.int 1, .int (mny (gw W p)), .int i, nats was, heapV W half base next] = some (.x 4, [.int i, nats (addAll was (kids W p)), heapV W half base next]) := by
  have hWl := wordsLen W
  have hkl := kids_len W p
  have hml := mny_lt (gw W p)
  obtain ⟨hm1, _⟩ := h.mem _ hp
  have hpl := h.plen
  have h1 := loop_run (body := fun n => L32_1 (ev Tryd.prog sg n) n) (fun j => [.int (j + 1 : Nat), .int (mny (gw W p)), .int i, nats (addAll was ((kids W p).take j)), heapV W half base next]) (kids W p).length (e := .x 4) (res := [.int i, nats (addAll was (kids W p)), heapV W half base next]) (fun k hk => ?_) (Evt.all fun n => ?_) (by decide)
  · exact h1
  · have hx := h.kid _ hp _ (gw_mem hk)
    have hkg := kids_gw (W := W) (p := p) (k := k) (by omega)
    rw [take_gw hk, addAll_snoc]
    obtain ⟨m, hm⟩ := addAll_ext ((kids W p).take k) was
    have hgp : gp (addAll was ((kids W p).take k)) i = p := by
      rw [hm, ← hg]
      simp [gp, List.getD_eq_getElem?_getD, List.getElem?_append_left hi]
    have hil : i < (addAll was ((kids W p).take k)).length := by rw [hm]; simp; omega
    have hway : Way P (addAll was ((kids W p).take k)) := addAll_way hw fun x hx => h.kid _ hp x (List.mem_of_mem_take hx)
    have hwl := len_sub hway.nodup hway.sub
    generalize addAll was ((kids W p).take k) = was1 at hway hwl hgp hil
    have hn1 := nth_gp hil
    rw [hgp] at hn1
    have hnl := natsLen was1
    have hn := nth_gw (W := W) (i := p + 1 + k) (by omega)
    rw [← hkg] at hn
    generalize gw (kids W p) k = x at hn hx
    have c1 : leI ((k + 1 : Nat) : Int) (mny (gw W p)) = true := leT (by omega)
    have c2 : geI (i : Int) 0 = true := geT (by omega)
    have c3 : ltI (i : Int) was1.length = true := ltT (by omega)
    have w2 : IntKind.i64.wrap ((p : Int) + ((k + 1 : Nat) : Int)) = ((p + 1 + k : Nat) : Int) := by rw [wrap64 (by omega) (by omega)]; omega
    have c4 : geI ((p + 1 + k : Nat) : Int) 0 = true := geT (by omega)
    have c5 : ltI ((p + 1 + k : Nat) : Int) W.length = true := ltT (by omega)
    have w1 : IntKind.i64.wrap (((k + 1 : Nat) : Int) + 1) = ((k + 1 + 1 : Nat) : Int) := by rw [wrap64 (by omega) (by omega)]; omega
    have hi' : ((i : Int)).toNat = i := by omega
    have hpk : (((p + 1 + k : Nat) : Int)).toNat = p + 1 + k := by omega
    by_cases he : x % 2 = 0
    · obtain ⟨x0, xP⟩ := there_ev hx he
      have hin := inP_nat (P := was1) (p := x / 2) (by omega)
      by_cases hm : (x / 2).toNat ∈ was1
      · have e2 : addW was1 x = was1 := by simp [addW, hm]
        rw [e2]
        refine (refS x).mp3 (wrefS x) (has7 was1 (x / 2) (by omega)) fun n q q2 q3 => ?_
        rw [eqT he] at q
        rw [hin, decide_eq_true hm] at q3
        simp only [L32_1, nth_0, nth_1, nth_2, nth_3, nth_4, toInt_int, toList_list, toBool_bool, fld_agg, hWl, hnl, c1, iff_true', c2, c3, hi', hn1, w2, c4, c5, hpk, hn, q, q2, q3, Option.bind_some, isB_bool, selB_true, beq_self_eq_true, Bool.not_true, iff_false', thenN_n, w1]
      · have e2 : addW was1 x = was1 ++ [(x / 2).toNat] := by simp [addW, hm, he]
        rw [e2]
        have e3 := natsOne was1 x0
        have c6 : leN ((was1.map fun p : Nat => PV.int (p : Int)).length + [PV.int (x / 2)].length) 17592186044416 = true := leNT (by simp; omega)
        rw [hnl] at c6
        refine (refS x).mp3 (wrefS x) (has7 was1 (x / 2) (by omega)) fun n q q2 q3 => ?_
        rw [eqT he] at q
        rw [hin, decide_eq_false hm] at q3
        simp only [L32_1, nth_0, nth_1, nth_2, nth_3, nth_4, toInt_int, toList_list, toBool_bool, fld_agg, hWl, hnl, c1, iff_true', c2, c3, hi', hn1, w2, c4, c5, hpk, hn, q, q2, q3, Option.bind_some, isB_bool, selB_true, beq_self_eq_true, Bool.not_false, c6, e3, thenN_n, w1]
    · have e2 : addW was1 x = was1 := by simp [addW, he]
      rw [e2]
      refine (refS x).mp fun n q => ?_
      rw [eqF he] at q
      simp only [L32_1, nth_0, nth_1, nth_2, nth_3, nth_4, toInt_int, toList_list, toBool_bool, fld_agg, hWl, hnl, c1, iff_true', c2, c3, hi', hn1, w2, c4, c5, hpk, hn, q, Option.bind_some, isB_bool, selB_false, Bool.false_eq_true, iff_false', thenN_n, w1]
      simp
      exact wrap64 (by omega) (by omega)
  · rw [List.take_length]
    have c1 : leI (((kids W p).length + 1 : Nat) : Int) (mny (gw W p)) = false := leF (by omega)
    simp only [L32_1, nth_0, nth_1, nth_2, nth_3, nth_4, toInt_int, c1, iff_false']
theorem ordLoop (h : SOk W half base next P) (hW : W.length ≤ 1048576) : ∀ (d i : Nat) (was : List Nat), P.length ≤ i + d → Way P was → i ≤ was.length →
    Evt fun n => ∀ m, d + 1 ≤ m → loopEv (L32_2 (ev Tryd.prog sg n) n) m [.int i, nats was, heapV W half base next] = some (.x 2, [nats (bfs W d i was)]) := by
  have hpl := h.plen
  have hWl := wordsLen W
  have stop : ∀ (i : Nat) (was : List Nat), i = was.length → Evt fun n => ∀ m, 1 ≤ m → loopEv (L32_2 (ev Tryd.prog sg n) n) m [.int i, nats was, heapV W half base next] = some (.x 2, [nats was]) := by
    intro i was hi
    refine Evt.all fun n m hm => ?_
    obtain ⟨m, rfl⟩ : ∃ m', m = m' + 1 := ⟨m - 1, by omega⟩
    have hnl := natsLen was
    have hB : L32_2 (ev Tryd.prog sg n) n [.int i, nats was, heapV W half base next] = some (.x 2, [nats was]) := by
      have c1 : ltI (i : Int) was.length = false := ltF (by omega)
      simp only [L32_2, nth_0, nth_1, toInt_int, toList_list, hnl, c1, iff_false']
    simp only [loopEv, hB, thenN_x, passE_eq]
  intro d
  induction d with
  | zero =>
    intro i was hd hw hi
    have := len_sub hw.nodup hw.sub
    exact (stop i was (by omega)).mp fun n q m hm => q m (by omega)
  | succ d ih =>
    intro i was hd hw hi
    simp only [bfs]
    by_cases hlt : i < was.length
    · rw [if_pos hlt]
      have hpm : gp was i ∈ P := hw.sub _ (gp_mem hlt)
      have hway : Way P (addAll was (kids W (gp was i))) := addAll_way hw (h.kid _ hpm)
      have hgrow : was.length ≤ (addAll was (kids W (gp was i))).length := by
        obtain ⟨m, e⟩ := addAll_ext (kids W (gp was i)) was
        rw [e]; simp
      obtain ⟨hm1, _⟩ := h.mem _ hpm
      have h2 := ih (i + 1) (addAll was (kids W (gp was i))) (by omega) hway (by omega)
      have h3 := ofS (gw W (gp was i))
      have h4 := ordB h hW hpm hw hlt rfl
      have hnl := natsLen was
      have hn := nth_gp hlt
      have hn2 := nth_gw (W := W) (i := gp was i) (by omega)
      have hwl := len_sub hw.nodup hw.sub
      refine (Evt.and h3 h4).mp2 h2 fun n q1 q2 m hm => ?_
      obtain ⟨m, rfl⟩ : ∃ m', m = m' + 1 := ⟨m - 1, by omega⟩
      have hB : L32_2 (ev Tryd.prog sg n) n [.int i, nats was, heapV W half base next] = some (.n, [.int (i + 1 : Nat), nats (addAll was (kids W (gp was i))), heapV W half base next]) := by
        have c1 : ltI (i : Int) was.length = true := ltT (by omega)
        have c2 : geI (i : Int) 0 = true := geT (by omega)
        have c3 : geI (gp was i : Int) 0 = true := geT (by omega)
        have c4 : ltI (gp was i : Int) W.length = true := ltT (by omega)
        have w1 : IntKind.i64.wrap ((i : Int) + 1) = ((i + 1 : Nat) : Int) := by rw [wrap64 (by omega) (by omega)]; omega
        have hk' : ((i : Int)).toNat = i := by omega
        have hp' : ((gp was i : Int)).toNat = gp was i := by omega
        simp only [L32_2, nth_0, nth_1, nth_2, toInt_int, toList_list, fld_agg, hnl, hWl, c1, iff_true', c2, c3, c4, hk', hn, hp', hn2, q1.1, Option.bind_some, q1.2, thenE_some, passB_same, thenN_n, w1]
      simp only [loopEv, hB, thenN_n]
      exact q2 m (by omega)
    · rw [if_neg hlt]
      exact (stop i was (by omega)).mp fun n q m hm => q m (by omega)
theorem orderS (h : SOk W half base next P) (hW : W.length ≤ 1048576) (hR : ∀ x, x ∈ R → there P x = true) (hRl : R.length ≤ 1048576) : Rn 32 [heapV W half base next, words R] [nats (bfs W P.length 0 (addAll [] R))] := by
  have hpl := h.plen
  have h1 := ordA hpl hR hRl (heapV W half base next)
  have h2 := ordLoop h hW P.length 0 (addAll [] R) (by omega) (addAll_way ⟨List.nodup_nil, by simp⟩ hR) (by omega)
  refine Is.of e32 (h1.mp3 h2 (Evt.ge 4000) fun n q1 q2 q3 => ?_)
  have q2' : loopEv (L32_2 (ev Tryd.prog sg n) n) n [.int 0, nats (addAll [] R), heapV W half base next] = some (.x 2, [nats (bfs W P.length 0 (addAll [] R))]) := q2 n (by omega)
  simp only [F32, nth_0, nth_1, q1, thenE_some, passB_same, thenN_n, q2']
end
/-! ### Numbers, written out -/
def dgB (n : Int) : PV := .str (sB (Lib.itoa n))
theorem digI {n : Int} (h0 : -9223372036854775808 ≤ n) (h1 : n < 9223372036854775808) : Rn 27 [.int n] [dgB n] := by
  have ho : Rn 54 [.int n] [dgB n] := orc_is (s := itoaSig) rfl rfl (by
    show (if (decide (-9223372036854775808 ≤ n) && decide (n ≤ 9223372036854775807)) = true then some [dgB n] else none) = some [dgB n]
    rw [if_pos]
    simp only [Bool.and_eq_true, decide_eq_true_eq]
    omega)
  exact Is.of e27 (ho.mp fun n h => by simp [F27, h])
/-- what is left, and what is written, behind j rounds -/
def dinv (s : Int) (u : Nat) (b : Bool) (j : Nat) : List PV := [.int (s * ((u / 10 ^ j : Nat) : Int)), .bool b, .str (sB (dgs u j))]
theorem wrap8 {x : Int} (h0 : 0 ≤ x) (h1 : x < 256) : IntKind.u8.wrap x = x := by
  unfold IntKind.wrap
  simp only [IntKind.bits, IntKind.signed]
  first
    | omega
    | (simp; omega)
theorem b2s_one {v : Nat} (h : v < 10) : b2sL [.int (IntKind.u8.wrap (IntKind.i64.wrap (48 + (v : Int))))] = sB [UInt8.ofNat (48 + v)] := by
  rw [wrap64 (by omega) (by omega), wrap8 (by omega) (by omega)]
  unfold b2sL sB
  have : ((48 : Int) + v).toNat = 48 + v := by omega
  simp [PV.toInt, this]
theorem digLoop {s : Int} {u : Nat} {b : Bool} (hs : s = 1 ∨ s = -1) (hu : u < 9223372036854775809) (h1 : s = 1 → u < 9223372036854775808) :
    Evt fun n => loopEv (L24_0 (ev Tryd.prog sg n) n) n [.int (s * (u : Int)), .bool b, .str (sB [])] = some (.x 0, [.bool b, .str (sB (if u = 0 then [] else Lib.decDigits u))]) := by
  have e0 : ([.int (s * (u : Int)), .bool b, .str (sB [])] : List PV) = dinv s u b 0 := by simp [dinv, dgs]
  rw [e0]
  by_cases hz : u = 0
  · subst hz
    refine loop_run (dinv s 0 b) 0 (fun i hi => by omega) (Evt.all fun n => ?_) (by decide)
    simp [L24_0, dinv, neF, dgs]
  · rw [if_neg hz, ← dgs_all]
    have hk := nDigits_le (u := u) (by omega)
    refine loop_run (dinv s u b) (Lib.nDigits u) (fun j hj => Evt.all fun n => ?_) (Evt.all fun n => ?_) (by decide)
    · have hp := pow_nDigits u (by omega)
      have hp2 : 10 ^ j ≤ 10 ^ (Lib.nDigits u - 1) := Nat.pow_le_pow_right (by decide) (by omega)
      have hq : 1 ≤ u / 10 ^ j := (Nat.one_le_div_iff (Nat.pow_pos (by decide))).2 (by omega)
      have hdg : Lib.dg u j = UInt8.ofNat (48 + u / 10 ^ j % 10) := rfl
      have hnext : u / 10 ^ (j + 1) = u / 10 ^ j / 10 := by rw [Nat.pow_succ, Nat.div_div_eq_div_mul]
      have hle : u / 10 ^ j ≤ u := Nat.div_le_self _ _
      have hsz : (dgs u j).length = j := dgs_length u j
      simp only [dinv, dgs_succ, hnext, hdg]
      generalize u / 10 ^ j = v at *
      have hr := b2s_one (v := v % 10) (Nat.mod_lt _ (by decide))
      rcases hs with rfl | rfl
      · have a1 : arith .rem .i64 (v : Int) 10 = ((v % 10 : Nat) : Int) := arith_rem v 10
        have a2 : arith .quo .i64 (v : Int) 10 = ((v / 10 : Nat) : Int) := arith_quo v 10 (by have := h1 rfl; omega)
        have c1 : ltI ((v % 10 : Nat) : Int) 0 = false := ltF (by omega)
        have c2 : neI (v : Int) 0 = true := neT (by omega)
        have c3 : leI ((sB ([UInt8.ofNat (48 + v % 10)] ++ dgs u j)).size : Int) 9223372036854775807 = true := leT (by simp [hsz]; omega)
        simp only [L24_0, Int.one_mul, nth_0, nth_1, nth_2, nth_3, toInt_int, toStr_str, a1, a2, c1, c2, iff_true', iff_false', thenN_n, hr, catB_sB, c3, neT (x := 10) (y := 0) (by decide)]
        rfl
      · have a1 : arith .rem .i64 (-1 * (v : Int)) 10 = -((v % 10 : Nat) : Int) := by
          show (-1 * (v : Int)).tmod 10 = _
          rw [Int.neg_one_mul, Int.neg_tmod, Int.tmod_eq_emod_of_nonneg (by omega)]; rfl
        have a2 : arith .quo .i64 (-1 * (v : Int)) 10 = -1 * ((v / 10 : Nat) : Int) := by
          show IntKind.i64.wrap ((-1 * (v : Int)).tdiv 10) = _
          rw [Int.neg_one_mul, Int.neg_tdiv, Int.tdiv_eq_ediv_of_nonneg (by omega), wrap64 (by omega) (by omega), Int.neg_one_mul]; rfl
        have c2 : neI (-1 * (v : Int)) 0 = true := neT (by omega)
        have c3 : leI ((sB ([UInt8.ofNat (48 + v % 10)] ++ dgs u j)).size : Int) 9223372036854775807 = true := leT (by simp [hsz]; omega)
        have a3 : IntKind.i64.wrap (0 - -((v % 10 : Nat) : Int)) = ((v % 10 : Nat) : Int) := by rw [wrap64 (by omega) (by omega)]; omega
        by_cases hv : v % 10 = 0
        · have c1 : ltI ((v % 10 : Nat) : Int) 0 = false := ltF (by omega)
          have a4 : -((v % 10 : Nat) : Int) = ((v % 10 : Nat) : Int) := by omega
          simp only [L24_0, nth_0, nth_1, nth_2, nth_3, toInt_int, toStr_str, a1, a2, c1, c2, iff_true', iff_false', thenN_n, a4, hr, catB_sB, c3, neT (x := 10) (y := 0) (by decide)]
          rfl
        · have c1 : ltI (-((v % 10 : Nat) : Int)) 0 = true := ltT (by omega)
          simp only [L24_0, nth_0, nth_1, nth_2, nth_3, toInt_int, toStr_str, a1, a2, a3, c1, c2, iff_true', iff_false', thenN_n, hr, catB_sB, c3, neT (x := 10) (y := 0) (by decide)]
          rfl
    · have hl := Lib.lt_pow_nDigits u
      have : u / 10 ^ Lib.nDigits u = 0 := Nat.div_eq_of_lt hl
      simp [L24_0, dinv, this, neF]
theorem digS {n : Int} (h0 : -9223372036854775808 ≤ n) (h1 : n < 9223372036854775808) : Rn 24 [.int n] [dgB n] := by
  by_cases hz : n = 0
  · subst hz
    have e : dgB 0 = .str ⟨#[48]⟩ := by simp [dgB, Lib.itoa, Lib.decDigits_one, sB]
    exact Is.of e24 (Evt.all fun n => by simp [F24, eqT, e])
  · have c1 : eqI n 0 = false := eqF hz
    by_cases hn : n < 0
    · have hl := digLoop (s := -1) (u := n.natAbs) (b := true) (.inr rfl) (by omega) (fun h => by cases h)
      rw [show -1 * (n.natAbs : Int) = n by omega, if_neg (by omega : ¬ n.natAbs = 0)] at hl
      refine Is.of e24 (hl.mp fun k h => ?_)
      have c2 : ltI n 0 = true := ltT hn
      have e : dgB n = .str (sB ([45] ++ Lib.decDigits n.natAbs)) := by simp [dgB, Lib.itoa, hn]
      have e1 : (⟨#[]⟩ : ByteArray) = sB [] := rfl
      have e2 : (⟨#[45]⟩ : ByteArray) = sB [45] := rfl
      have e3 : leI ((sB ([45] ++ Lib.decDigits n.natAbs)).size : Int) 9223372036854775807 = true := leT (by
        have := nDigits_le (u := n.natAbs) (by omega)
        simp [Lib.decDigits_length]; omega)
      simp only [F24, nth_0, nth_1, toInt_int, c1, iff_false', c2, e1, h, thenE_some, passB_same, thenN_n, toBool_bool, iff_true', e2, toStr_str, catB_sB, e3, e]
    · have hl := digLoop (s := 1) (u := n.toNat) (b := false) (.inl rfl) (by omega) (fun h => by omega)
      rw [show 1 * (n.toNat : Int) = n by omega, if_neg (by omega : ¬ n.toNat = 0)] at hl
      refine Is.of e24 (hl.mp fun k h => ?_)
      have c2 : ltI n 0 = false := ltF (by omega)
      have e : dgB n = .str (sB (Lib.decDigits n.toNat)) := by simp [dgB, Lib.itoa, hn]
      have e1 : (⟨#[]⟩ : ByteArray) = sB [] := rfl
      simp only [F24, nth_0, nth_1, toInt_int, c1, iff_false', c2, e1, h, thenE_some, passB_same, thenN_n, toBool_bool, e]
end Go.Proofs.YthmhgnnaihkjaaaDoor.GFnExactShape
