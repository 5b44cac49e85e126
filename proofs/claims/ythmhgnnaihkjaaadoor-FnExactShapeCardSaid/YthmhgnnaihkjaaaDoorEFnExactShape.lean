/- What functions of the program and of the reference come to, for the law FnExactShape. Each under the conditions that it names. -/
import Derived.Test.YthmhgnnaihkjaaaDoorDFnExactShape
namespace Go.Proofs.YthmhgnnaihkjaaaDoor.GFnExactShape
open Go Go.Rsc Go.Proofs.YthmhgnnaihkjaaaDoor
set_option maxRecDepth 100000
set_option linter.unusedVariables false
set_option linter.unusedSimpArgs false
/-! ### Bytes of strings -/
theorem s2bL_sB (l : List UInt8) : s2bL (sB l) = l.map fun b : UInt8 => PV.int b.toNat := by simp [s2bL]
theorem b2sL_map (l : List UInt8) : b2sL (l.map fun b : UInt8 => PV.int b.toNat) = sB l := by
  unfold b2sL sB
  rw [List.map_map]
  congr 1
  congr 1
  conv => rhs; rw [← List.map_id l]
  refine List.map_congr_left fun b _ => ?_
  simp [PV.toInt]
abbrev bytesV (l : List UInt8) : PV := .list (l.map fun b : UInt8 => PV.int b.toNat)
theorem ot32 : (⟨#[32]⟩ : ByteArray) = sB [32] := rfl
theorem ot10 : (⟨#[10]⟩ : ByteArray) = sB [10] := rfl
theorem ot0 : (⟨#[]⟩ : ByteArray) = sB [] := rfl
def i64 (x : Int) : Prop := -9223372036854775808 ≤ x ∧ x < 9223372036854775808
/-! ### A heap's shape, written out -/
def idL : Nat → List Nat → List PV
  | _, [] => []
  | b, p :: l => .agg [.int (p : Int), .int (b : Int)] :: idL (b + 1) l
theorem id_get {p : Nat} : ∀ {l : List Nat} {b : Nat}, p ∈ l → mgetL (.int 0) (p : Int) (idL b l) = .int ((b + ix l p : Nat) : Int)
  | q :: l, b, h => by
    show (if ((PV.agg [.int (q : Int), .int (b : Int)]).fld 0).toInt = (p : Int) then (PV.agg [.int (q : Int), .int (b : Int)]).fld 1 else mgetL (.int 0) (p : Int) (idL (b + 1) l)) = _
    by_cases e : q = p
    · subst e
      simp [ix]
    · have hm : p ∈ l := (List.mem_cons.1 h).resolve_left fun e2 => e e2.symm
      have e2 : ¬ (q : Int) = (p : Int) := by omega
      rw [if_neg (by simpa using e2), id_get hm]
      simp [ix, e]
      omega
theorem id_set {p : Nat} : ∀ (l : List Nat) (b : Nat), p ∉ l → msetL (p : Int) (.int ((b + l.length : Nat) : Int)) (idL b l) = idL b (l ++ [p])
  | [], b, _ => by simp [idL, msetL]
  | q :: l, b, h => by
    have e : ¬ (q : Int) = (p : Int) := fun e => h (by rw [show p = q by omega]; simp)
    show (if ((PV.agg [.int (q : Int), .int (b : Int)]).fld 0).toInt = (p : Int) then _ else PV.agg [.int (q : Int), .int (b : Int)] :: msetL (p : Int) (.int ((b + (q :: l).length : Nat) : Int)) (idL (b + 1) l)) = _
    rw [if_neg (by simpa using e)]
    have := id_set (p := p) l (b + 1) (fun hm => h (by simp [hm]))
    rw [show b + (q :: l).length = b + 1 + l.length by simp; omega, this]
    rfl
theorem gp_new {l : List Nat} (h : l.Nodup) {k : Nat} (hk : k < l.length) : gp l k ∉ l.take k := by
  have h1 : (l.take (k + 1)).Nodup := (List.take_sublist _ _).nodup h
  rw [take_gp hk, List.nodup_append] at h1
  exact fun hm => h1.2.2 _ hm _ (by simp) rfl
theorem gp_take {l : List Nat} {t k : Nat} (h : t < k) : gp (l.take k) t = gp l t := by
  simp [gp, List.getD_eq_getElem?_getD, List.getElem?_take, h]
theorem ix_gp {l : List Nat} (h : l.Nodup) {k : Nat} (hk : k < l.length) : ix l (gp l k) = k :=
  ix_eq hk rfl fun t ht e => gp_new h hk (by
    rw [← e, ← gp_take (l := l) ht]
    exact gp_mem (by simp; omega))
theorem ix_le : ∀ (l : List Nat) (p : Nat), ix l p ≤ l.length
  | [], _ => Nat.le_refl _
  | q :: l, p => by
    have := ix_le l p
    simp only [ix, List.length_cons]
    split <;> omega
def wordB (fin : List Nat) (x : Int) : List UInt8 := if x % 2 = 0 then [32, 64] ++ Lib.itoa (ix fin (x / 2).toNat) else [32] ++ Lib.itoa (x / 2)
def wordsB (fin : List Nat) (l : List Int) : List UInt8 := l.flatMap (wordB fin)
theorem wordB_len {fin : List Nat} (hf : fin.length ≤ 3000) {x : Int} (h : i64 x) : (wordB fin x).length ≤ 23 := by
  have h1 := ix_le fin (x / 2).toNat
  have l1 := itoa_len (n := (ix fin (x / 2).toNat : Int)) (by omega) (by omega)
  obtain ⟨h2, h3⟩ := h
  have l2 := itoa_len (n := x / 2) (by omega) (by omega)
  unfold wordB
  split <;> simp only [List.length_append, List.length_cons, List.length_nil] <;> omega
theorem wordsB_len {fin : List Nat} (hf : fin.length ≤ 3000) : ∀ {l : List Int}, (∀ x, x ∈ l → i64 x) → (wordsB fin l).length ≤ 23 * l.length
  | [], _ => by simp [wordsB]
  | x :: l, h => by
    have h1 := wordB_len hf (h x (by simp))
    have h2 := wordsB_len hf (l := l) fun y hy => h y (by simp [hy])
    simp only [wordsB, List.flatMap_cons, List.length_append, List.length_cons] at h2 ⊢
    omega
theorem wordsB_snoc (fin : List Nat) (l : List Int) (x : Int) : wordsB fin (l ++ [x]) = wordsB fin l ++ wordB fin x := by simp [wordsB]
def headB (w : Int) : List UInt8 := (if eqI (w / 2 % 2) 1 then [102, 117, 110] else [99, 111, 110]) ++ [32] ++ Lib.itoa (w / 2 / 128)
def blockB (W : List Int) (fin : List Nat) (p : Nat) : List UInt8 := headB (gw W p) ++ wordsB fin (kids W p) ++ [10]
def shapeB (W : List Int) (fin : List Nat) (R : List Int) (l : List Nat) : List UInt8 := wordsB fin R ++ [10] ++ l.flatMap (blockB W fin)
theorem shapeB_snoc (W : List Int) (fin : List Nat) (R : List Int) (l : List Nat) (p : Nat) : shapeB W fin R (l ++ [p]) = shapeB W fin R l ++ blockB W fin p := by simp [shapeB]
theorem gw_i64 {W : List Int} (h : ∀ w, w ∈ W → i64 w) (i : Nat) : i64 (gw W i) := by
  unfold gw
  rw [List.getD_eq_getElem?_getD]
  cases e : W[i]? with
  | none => exact ⟨by decide, by decide⟩
  | some w => exact h w (List.mem_of_getElem? e)
theorem kids_i64 {W : List Int} (h : ∀ w, w ∈ W → i64 w) (p : Nat) : ∀ x, x ∈ kids W p → i64 x := by
  intro x hx
  obtain ⟨k, _, rfl⟩ := List.mem_map.1 hx
  exact gw_i64 h _
theorem headB_len {w : Int} (h : i64 w) : (headB w).length ≤ 25 := by
  obtain ⟨h2, h3⟩ := h
  have l2 := itoa_len (n := w / 2 / 128) (by omega) (by omega)
  unfold headB
  split <;> simp only [List.length_append, List.length_cons, List.length_nil] <;> omega
theorem blockB_len {W : List Int} {fin : List Nat} (hf : fin.length ≤ 3000) (h : ∀ w, w ∈ W → i64 w) (p : Nat) : (blockB W fin p).length ≤ 1500 := by
  have h1 := headB_len (gw_i64 h p)
  have h2 := wordsB_len hf (kids_i64 h p)
  rw [kids_len] at h2
  have := mny_lt (gw W p)
  simp only [blockB, List.length_append, List.length_cons, List.length_nil]
  omega
theorem shapeB_len {W : List Int} {fin : List Nat} (hf : fin.length ≤ 3000) (h : ∀ w, w ∈ W → i64 w) {R : List Int} (hR : ∀ w, w ∈ R → i64 w) (hRl : R.length ≤ 1048576) : ∀ l : List Nat, (shapeB W fin R l).length ≤ 30000000 + 1500 * l.length
  | [] => by
    have := wordsB_len hf hR
    simp only [shapeB, List.flatMap_nil, List.length_append, List.length_cons, List.length_nil]
    omega
  | p :: l => by
    have h1 := shapeB_len hf h hR hRl l
    have h2 := blockB_len hf h p
    simp only [shapeB, List.flatMap_cons, List.length_append, List.length_cons, List.length_nil] at h1 ⊢
    omega
theorem sh64 : (⟨#[32, 64]⟩ : ByteArray) = sB [32, 64] := rfl
theorem shFun4 : (⟨#[102, 117, 110, 32]⟩ : ByteArray) = sB [102, 117, 110, 32] := rfl
theorem shCon4 : (⟨#[99, 111, 110, 32]⟩ : ByteArray) = sB [99, 111, 110, 32] := rfl
theorem shFun3 : (⟨#[102, 117, 110]⟩ : ByteArray) = sB [102, 117, 110] := rfl
theorem shCon3 : (⟨#[99, 111, 110]⟩ : ByteArray) = sB [99, 111, 110] := rfl
section
variable {W R : List Int} {half base next : Int} {P fin : List Nat}
/-- Words behind bytes. -/
theorem lineI (hf : Way P fin) (hfl : fin.length ≤ 3000) {l : List Int} (hl : ∀ x, x ∈ l → inW fin x ∧ there P x = true ∧ i64 x) (hll : l.length ≤ 1048576) {t : List UInt8} (ht : t.length ≤ 1000000000) :
    Rn 37 [words l, bytesV t, .list (idL 0 fin)] [bytesV (t ++ wordsB fin l ++ [10]), .list (idL 0 fin)] := by
  have hlen := wordsLen l
  have hwl := wordsB_len hfl fun x hx => (hl x hx).2.2
  have h1 := loop_run (body := fun n => L37_0 (ev Tryd.prog sg n) n) (fun k => [.int k, .int l.length, words l, .list (idL 0 fin), bytesV (t ++ wordsB fin (l.take k))]) l.length (e := .x 0) (res := [.list (idL 0 fin), bytesV (t ++ wordsB fin l)]) (fun k hk => ?_) (Evt.all fun n => ?_) (by decide)
  · refine Is.of e37 (h1.mp fun n q => ?_)
    have e0 : t ++ wordsB fin (l.take 0) = t := by simp [wordsB]
    rw [e0] at q
    have q' : loopEv (L37_0 (ev Tryd.prog sg n) n) n [.int 0, .int l.length, words l, .list (idL 0 fin), bytesV t] = some (.x 0, [.list (idL 0 fin), bytesV (t ++ wordsB fin l)]) := q
    have c1 : leN (((t ++ wordsB fin l).map fun b : UInt8 => PV.int b.toNat).length + [PV.int 10].length) 140737488355328 = true := leNT (by simp only [List.length_map, List.length_append, List.length_cons, List.length_nil]; omega)
    have e1 : ((t ++ wordsB fin l).map fun b : UInt8 => PV.int b.toNat) ++ [PV.int 10] = (t ++ wordsB fin l ++ [10]).map fun b : UInt8 => PV.int b.toNat := by simp
    simp only [F37, nth_0, nth_1, nth_2, toList_list, hlen, q', thenE_some, passB_same, thenN_n, c1, iff_true', e1]
  · have hn := nth_gw hk
    obtain ⟨hx, hP, h64⟩ := hl _ (gw_mem hk)
    have hwk := wordsB_len hfl (l := l.take k) fun x hx => (hl x (List.mem_of_mem_take hx)).2.2
    have hkl : (l.take k).length ≤ 1048576 := by rw [List.length_take]; omega
    rw [take_gw hk, wordsB_snoc]
    have hwx := wordB_len hfl h64
    have ht2 : (t ++ wordsB fin (l.take k)).length ≤ 1100000000 := by rw [List.length_append]; omega
    rw [← List.append_assoc]
    generalize t ++ wordsB fin (l.take k) = T at ht2
    generalize gw l k = x at *
    have c1 : ltI (k : Int) l.length = true := ltT (by omega)
    have c2 : geI (k : Int) 0 = true := geT (by omega)
    have w1 : IntKind.i64.wrap ((k : Int) + 1) = ((k + 1 : Nat) : Int) := by rw [wrap64 (by omega) (by omega)]; omega
    have hk' : ((k : Int)).toNat = k := by omega
    obtain ⟨r1, r2⟩ := h64
    by_cases he : x % 2 = 0
    · obtain ⟨x0, xP⟩ := there_ev hP he
      have hg := id_get (b := 0) (hx he)
      rw [Nat.zero_add, show (((x / 2).toNat : Nat) : Int) = x / 2 by omega] at hg
      have hil := ix_le fin (x / 2).toNat
      have e0 : wordB fin x = [32, 64] ++ Lib.itoa (ix fin (x / 2).toNat) := by simp [wordB, he]
      rw [e0] at hwx ⊢
      generalize ix fin (x / 2).toNat = y at *
      have hd := digI (n := (y : Int)) (by omega) (by omega)
      refine (refI x).mp3 (wrefI x) hd fun n q1 q2 q3 => ?_
      rw [eqT he] at q1
      have c3 : leI ((sB ([32, 64] ++ Lib.itoa (y : Int))).size : Int) 9223372036854775807 = true := leT (by rw [size_sB]; omega)
      have c4 : leN ((T.map fun b : UInt8 => PV.int b.toNat).length + (([32, 64] ++ Lib.itoa (y : Int)).map fun b : UInt8 => PV.int b.toNat).length) 140737488355328 = true := leNT (by simp only [List.length_map]; omega)
      simp only [L37_0, nth_0, nth_1, nth_2, nth_3, nth_4, toInt_int, toList_list, toBool_bool, toStr_str, hlen, c1, c2, iff_true', hk', hn, q1, q2, Option.bind_some, hg, q3, dgB, sh64, catB_sB, c3, s2bL_sB, c4, thenN_n, w1, ← List.map_append]
    · have e0 : wordB fin x = [32] ++ Lib.itoa (x / 2) := by simp [wordB, he]
      rw [e0] at hwx ⊢
      have hd := digI (n := x / 2) (by omega) (by omega)
      refine (refI x).mp3 (wintI x) hd fun n q1 q2 q3 => ?_
      rw [eqF he] at q1
      have c3 : leI ((sB ([32] ++ Lib.itoa (x / 2))).size : Int) 9223372036854775807 = true := leT (by rw [size_sB]; omega)
      have c4 : leN ((T.map fun b : UInt8 => PV.int b.toNat).length + (([32] ++ Lib.itoa (x / 2)).map fun b : UInt8 => PV.int b.toNat).length) 140737488355328 = true := leNT (by simp only [List.length_map]; omega)
      simp only [L37_0, nth_0, nth_1, nth_2, nth_3, nth_4, toInt_int, toList_list, toBool_bool, toStr_str, hlen, c1, c2, iff_true', iff_false', hk', hn, q1, q2, Option.bind_some, q3, dgB, ot32, catB_sB, c3, s2bL_sB, c4, thenN_n, w1, ← List.map_append]
  · rw [List.take_length]
    have c1 : ltI (l.length : Int) l.length = false := ltF (by omega)
    simp only [L37_0, nth_0, nth_1, nth_2, nth_3, nth_4, toInt_int, c1, iff_false']
theorem idxI (hf : Way P fin) (hfl : fin.length ≤ 3000) (rt hv : PV) :
    Evt fun n => loopEv (L16_0 (ev Tryd.prog sg n) n) n [.int 0, .int fin.length, rt, nats fin, .list [], hv] = some (.x 0, [rt, nats fin, .list (idL 0 fin), hv]) := by
  have hnl := natsLen fin
  have h1 := loop_run (body := fun n => L16_0 (ev Tryd.prog sg n) n) (fun k => [.int k, .int fin.length, rt, nats fin, .list (idL 0 (fin.take k)), hv]) fin.length (e := .x 0) (res := [rt, nats fin, .list (idL 0 fin), hv]) (fun k hk => Evt.all fun n => ?_) (Evt.all fun n => ?_) (by decide)
  · exact h1
  · have hn := nth_gp hk
    have hset := id_set (fin.take k) 0 (gp_new hf.nodup hk)
    rw [← take_gp hk, Nat.zero_add, List.length_take, Nat.min_eq_left (by omega)] at hset
    have c1 : ltI (k : Int) fin.length = true := ltT (by omega)
    have c2 : geI (k : Int) 0 = true := geT (by omega)
    have w1 : IntKind.i64.wrap ((k : Int) + 1) = ((k + 1 : Nat) : Int) := by rw [wrap64 (by omega) (by omega)]; omega
    have hk' : ((k : Int)).toNat = k := by omega
    simp only [L16_0, nth_0, nth_1, nth_2, nth_3, nth_4, nth_5, toInt_int, toList_list, hnl, c1, c2, iff_true', hk', hn, hset, w1]
  · rw [List.take_length]
    have c1 : ltI (fin.length : Int) fin.length = false := ltF (by omega)
    simp only [L16_0, nth_0, nth_1, nth_2, nth_3, nth_4, nth_5, toInt_int, c1, iff_false']
theorem head4 (w : Int) : (if eqI (w / 2 % 2) 1 then [102, 117, 110, 32] else [99, 111, 110, 32]) ++ Lib.itoa (w / 2 / 128) = headB w := by
  unfold headB
  split <;> simp
theorem blocksI2 (h : SOk W half base next P) (hW : W.length ≤ 1048576) (hW2 : ∀ w, w ∈ W → i64 w) (hR2 : ∀ w, w ∈ R → i64 w) (hRl : R.length ≤ 1048576) (hf : Way P fin) (hfl : fin.length ≤ 3000) (hk : ∀ q, q ∈ fin → ∀ x, x ∈ kids W q → inW fin x) :
    Evt fun n => loopEv (L16_1 (ev Tryd.prog sg n) n) n [.int 0, .int fin.length, nats fin, heapV W half base next, bytesV (shapeB W fin R []), .list (idL 0 fin)] = some (.x 2, [bytesV (shapeB W fin R fin)]) := by
  have hnl := natsLen fin
  have hWl := wordsLen W
  have h1 := loop_run (body := fun n => L16_1 (ev Tryd.prog sg n) n) (fun k => [.int k, .int fin.length, nats fin, heapV W half base next, bytesV (shapeB W fin R (fin.take k)), .list (idL 0 fin)]) fin.length (e := .x 2) (res := [bytesV (shapeB W fin R fin)]) (fun k hk' => ?_) (Evt.all fun n => ?_) (by decide)
  · exact h1
  · have hpm : gp fin k ∈ P := hf.sub _ (gp_mem hk')
    have hn := nth_gp hk'
    obtain ⟨hm1, _⟩ := h.mem _ hpm
    have hn2 := nth_gw (W := W) (i := gp fin k) (by omega)
    have hT := shapeB_len hfl hW2 hR2 hRl (fin.take k)
    have hkl : (fin.take k).length ≤ 3000 := by rw [List.length_take]; omega
    have h64 := gw_i64 hW2 (gp fin k)
    have hhl := headB_len h64
    have hkk := kids_len W (gp fin k)
    have hml := mny_lt (gw W (gp fin k))
    have hki := kidsAtI h hW hpm
    have hli := lineI hf hfl (l := kids W (gp fin k)) (fun x hx => ⟨hk _ (gp_mem hk') x hx, h.kid _ hpm x hx, kids_i64 hW2 _ x hx⟩) (by omega) (t := shapeB W fin R (fin.take k) ++ headB (gw W (gp fin k))) (by rw [List.length_append]; omega)
    have eB : shapeB W fin R (fin.take k) ++ headB (gw W (gp fin k)) ++ wordsB fin (kids W (gp fin k)) ++ [10] = shapeB W fin R (fin.take (k + 1)) := by
      rw [take_gp hk', shapeB_snoc]
      simp [blockB]
    rw [eB] at hli
    generalize shapeB W fin R (fin.take (k + 1)) = T' at *
    generalize shapeB W fin R (fin.take k) = T at *
    have hdl := head4 (gw W (gp fin k))
    obtain ⟨r1, r2⟩ := h64
    have hd := digI (n := gw W (gp fin k) / 2 / 128) (by omega) (by omega)
    have c1 : ltI (k : Int) fin.length = true := ltT (by omega)
    have c2 : geI (k : Int) 0 = true := geT (by omega)
    have c3 : geI (gp fin k : Int) 0 = true := geT (by omega)
    have c4 : ltI (gp fin k : Int) W.length = true := ltT (by omega)
    have w1 : IntKind.i64.wrap ((k : Int) + 1) = ((k + 1 : Nat) : Int) := by rw [wrap64 (by omega) (by omega)]; omega
    have hk'' : ((k : Int)).toNat = k := by omega
    have hp' : ((gp fin k : Int)).toNat = gp fin k := by omega
    have c5 : leI ((sB (headB (gw W (gp fin k)))).size : Int) 9223372036854775807 = true := leT (by rw [size_sB]; omega)
    have c6 : leN ((T.map fun b : UInt8 => PV.int b.toNat).length + ((headB (gw W (gp fin k))).map fun b : UInt8 => PV.int b.toNat).length) 140737488355328 = true := leNT (by simp only [List.length_map]; omega)
    refine Evt.mp4 (hdrI (gw W (gp fin k))) hd hki hli fun n q1 q2 q3 q4 => ?_
    cases hfn : eqI (gw W (gp fin k) / 2 % 2) 1 with
    | true =>
      rw [hfn] at q1 hdl
      simp only [if_true] at hdl
      simp only [L16_1, nth_0, nth_1, nth_2, nth_3, nth_4, nth_5, nth_6, nth_7, nth_8, toInt_int, toList_list, toBool_bool, toStr_str, fld_agg, hnl, hWl, c1, c2, c3, c4, iff_true', hk'', hn, hp', hn2, q1, q2, q3, Option.bind_some, thenN_n, dgB, shFun4, catB_sB, hdl, c5, s2bL_sB, c6, ← List.map_append, q4, w1]
    | false =>
      rw [hfn] at q1 hdl
      simp only [Bool.false_eq_true, if_false] at hdl
      simp only [L16_1, nth_0, nth_1, nth_2, nth_3, nth_4, nth_5, nth_6, nth_7, nth_8, toInt_int, toList_list, toBool_bool, toStr_str, fld_agg, hnl, hWl, c1, c2, c3, c4, iff_true', iff_false', hk'', hn, hp', hn2, q1, q2, q3, Option.bind_some, thenN_n, dgB, shCon4, catB_sB, hdl, c5, s2bL_sB, c6, ← List.map_append, q4, w1]
  · rw [List.take_length]
    have c1 : ltI (fin.length : Int) fin.length = false := ltF (by omega)
    simp only [L16_1, nth_0, nth_1, nth_2, nth_3, nth_4, nth_5, toInt_int, c1, iff_false']
theorem shapeI (h : SOk W half base next P) (hW : W.length ≤ 1048576) (hW2 : ∀ w, w ∈ W → i64 w) (hR : ∀ x, x ∈ R → there P x = true) (hR2 : ∀ w, w ∈ R → i64 w) (hRl : R.length ≤ 1048576) (hfin : fin = bfs W P.length 0 (addAll [] R)) (hf : Way P fin) (hfl : fin.length ≤ 3000) (hk : ∀ q, q ∈ fin → ∀ x, x ∈ kids W q → inW fin x) (hRf : ∀ x, x ∈ R → inW fin x) (hok : rootsB W half base next R = true) :
    Rn 16 [heapV W half base next, words R] [.str (sB (shapeB W fin R fin))] := by
  have hr := rootsI (half := half) (base := base) (next := next) (R := R) hW hRl
  rw [hok] at hr
  have hm := metI h hW hR hRl
  rw [← hfin] at hm
  have hi := idxI hf hfl (words R) (heapV W half base next)
  have hl := lineI hf hfl (l := R) (fun x hx => ⟨hRf x hx, hR x hx, hR2 x hx⟩) hRl (t := []) (by simp)
  have hb := blocksI2 h hW hW2 hR2 hRl hf hfl hk
  have e0 : [] ++ wordsB fin R ++ [10] = shapeB W fin R [] := by simp [shapeB]
  rw [e0] at hl
  have hnl := natsLen fin
  refine Is.of e16 ((Evt.and hr hm).mp4 hi hl hb fun n ⟨q1, q2⟩ q3 q4 q5 => ?_)
  have q4' : ev Tryd.prog sg n 37 [words R, .list [], .list (idL 0 fin)] = some [bytesV (shapeB W fin R []), .list (idL 0 fin)] := q4
  simp only [F16, nth_0, nth_1, nth_2, nth_3, q1, q2, Option.bind_some, toBool_bool, Bool.not_true, iff_false', toList_list, hnl, q3, thenE_some, passB_same, thenN_n, q4', q5, b2sL_map]
/-! ### .. by the reference -/
theorem wordS (hf : Way P fin) (hfl : fin.length ≤ 3000) {x : Int} (hx : inW fin x) (hP : there P x = true) (h64 : i64 x) : Rn 33 [.int x, nats fin] [.str (sB (wordB fin x))] := by
  have hwx := wordB_len hfl h64
  obtain ⟨r1, r2⟩ := h64
  by_cases he : x % 2 = 0
  · obtain ⟨x0, xP⟩ := there_ev hP he
    have hm := hx he
    have e0 : wordB fin x = [32, 64] ++ Lib.itoa (ix fin (x / 2).toNat) := by simp [wordB, he]
    rw [e0] at hwx ⊢
    have hnl := natsLen fin
    have h1 := all_loop (body := fun n => L33_0 (ev Tryd.prog sg n) n) (pay := fun i => [.int i, nats fin, .int x]) (c := fun i => !eqI (gp fin i : Int) (x / 2)) (e1 := .x 0) (r1 := []) (e2 := .r) (r2 := [.str (sB ([32, 64] ++ Lib.itoa (ix fin (x / 2).toNat)))]) fin.length (by simp) (by simp) (fun i hi hc => ?_) (fun i hi hc => ?_) (Evt.all fun n => ?_)
    · rw [range_gp (fun q => !eqI (q : Int) (x / 2)), all_not_in, inP_nat (by omega), decide_eq_true hm] at h1
      refine Is.of e33 ((refS x).mp2 h1 fun n q1 q2 => ?_)
      rw [eqT he] at q1
      simp only [show ((0 : Nat) : Int) = 0 from rfl, Bool.not_true, Bool.false_eq_true, if_false] at q2
      simp only [F33, nth_0, nth_1, q1, Option.bind_some, toBool_bool, Bool.not_true, iff_false', q2, thenE_some]
      rfl
    · have hn := nth_gp hi
      have hc' : eqI (gp fin i : Int) (x / 2) = false := by simpa using hc
      have c1 : ltI (i : Int) fin.length = true := ltT (by omega)
      have c2 : geI (i : Int) 0 = true := geT (by omega)
      have w1 : IntKind.i64.wrap ((i : Int) + 1) = ((i + 1 : Nat) : Int) := by rw [wrap64 (by omega) (by omega)]; omega
      have hk' : ((i : Int)).toNat = i := by omega
      refine (wrefS x).mp fun n q => ?_
      simp only [L33_0, nth_0, nth_1, nth_2, toInt_int, toList_list, hnl, c1, c2, iff_true', hk', hn, q, Option.bind_some, hc', iff_false', w1]
    · have hn := nth_gp hi
      have hc' : eqI (gp fin i : Int) (x / 2) = true := by simpa using hc
      have hgi : gp fin i = (x / 2).toNat := by simp [eqI] at hc'; omega
      have hix := ix_gp hf.nodup hi
      rw [hgi] at hix
      rw [hix] at hwx
      have c1 : ltI (i : Int) fin.length = true := ltT (by omega)
      have c2 : geI (i : Int) 0 = true := geT (by omega)
      have hk' : ((i : Int)).toNat = i := by omega
      have hd := digS (n := (i : Int)) (by omega) (by omega)
      have c3 : leI ((sB ([32, 64] ++ Lib.itoa (i : Int))).size : Int) 9223372036854775807 = true := leT (by rw [size_sB]; omega)
      refine (wrefS x).mp2 hd fun n q q2 => ?_
      simp only [L33_0, nth_0, nth_1, nth_2, toInt_int, toList_list, toStr_str, hnl, c1, c2, iff_true', hk', hn, q, q2, Option.bind_some, hc', dgB, sh64, catB_sB, c3, hix]
    · have c1 : ltI (fin.length : Int) fin.length = false := ltF (by omega)
      simp only [L33_0, nth_0, nth_1, nth_2, toInt_int, toList_list, hnl, c1, iff_false']
  · have e0 : wordB fin x = [32] ++ Lib.itoa (x / 2) := by simp [wordB, he]
    rw [e0] at hwx ⊢
    have hd := digS (n := x / 2) (by omega) (by omega)
    have c3 : leI ((sB ([32] ++ Lib.itoa (x / 2))).size : Int) 9223372036854775807 = true := leT (by rw [size_sB]; omega)
    refine Is.of e33 ((refS x).mp3 (wintS x) hd fun n q1 q2 q3 => ?_)
    rw [eqF he] at q1
    simp only [F33, nth_0, nth_1, q1, q2, q3, Option.bind_some, toBool_bool, toStr_str, Bool.not_false, iff_true', dgB, ot32, catB_sB, c3]
theorem rootsS2 (hf : Way P fin) (hfl : fin.length ≤ 3000) (hRf : ∀ x, x ∈ R → inW fin x ∧ there P x = true ∧ i64 x) (hRl : R.length ≤ 1048576) (hv : PV) :
    Evt fun n => loopEv (L13_0 (ev Tryd.prog sg n) n) n [.int 0, words R, .str (sB []), nats fin, hv] = some (.x 0, [.str (sB (wordsB fin R)), nats fin, hv]) := by
  have hlen := wordsLen R
  have h1 := loop_run (body := fun n => L13_0 (ev Tryd.prog sg n) n) (fun k => [.int k, words R, .str (sB (wordsB fin (R.take k))), nats fin, hv]) R.length (e := .x 0) (res := [.str (sB (wordsB fin R)), nats fin, hv]) (fun k hk => ?_) (Evt.all fun n => ?_) (by decide)
  · exact h1
  · have hn := nth_gw hk
    obtain ⟨hx, hP, h64⟩ := hRf _ (gw_mem hk)
    have hwk := wordsB_len hfl (l := R.take k) fun x hx => (hRf x (List.mem_of_mem_take hx)).2.2
    have hkl : (R.take k).length ≤ 1048576 := by rw [List.length_take]; omega
    have hwx := wordB_len hfl h64
    have hw := wordS hf hfl hx hP h64
    rw [take_gw hk, wordsB_snoc]
    have c1 : ltI (k : Int) R.length = true := ltT (by omega)
    have c2 : geI (k : Int) 0 = true := geT (by omega)
    have w1 : IntKind.i64.wrap ((k : Int) + 1) = ((k + 1 : Nat) : Int) := by rw [wrap64 (by omega) (by omega)]; omega
    have hk' : ((k : Int)).toNat = k := by omega
    have c3 : leI ((sB (wordsB fin (R.take k) ++ wordB fin (gw R k))).size : Int) 9223372036854775807 = true := leT (by rw [size_sB, List.length_append]; omega)
    refine hw.mp fun n q => ?_
    simp only [L13_0, nth_0, nth_1, nth_2, nth_3, nth_4, toInt_int, toList_list, toStr_str, hlen, c1, c2, iff_true', hk', hn, q, Option.bind_some, catB_sB, c3, w1]
  · rw [List.take_length]
    have c1 : ltI (R.length : Int) R.length = false := ltF (by omega)
    simp only [L13_0, nth_0, nth_1, nth_2, nth_3, nth_4, toInt_int, toList_list, hlen, c1, iff_false']
theorem lineS (h : SOk W half base next P) (hW : W.length ≤ 1048576) (hW2 : ∀ w, w ∈ W → i64 w) (hf : Way P fin) (hfl : fin.length ≤ 3000) (hk : ∀ q, q ∈ fin → ∀ x, x ∈ kids W q → inW fin x) {i : Nat} (hi : i < fin.length) {t : List UInt8} (ht : t.length ≤ 1000000000) :
    Evt fun n => loopEv (L13_1 (ev Tryd.prog sg n) n) n [.int 1, .int (mny (gw W (gp fin i))), .str (sB t), .int i, nats fin, heapV W half base next] = some (.x 4, [.str (sB (t ++ wordsB fin (kids W (gp fin i)))), .int i, nats fin, heapV W half base next]) := by
  have hpm : gp fin i ∈ P := hf.sub _ (gp_mem hi)
  have hn1 := nth_gp hi
  have hnl := natsLen fin
  have hWl := wordsLen W
  obtain ⟨hm1, _⟩ := h.mem _ hpm
  have hki : ∀ x, x ∈ kids W (gp fin i) → inW fin x ∧ there P x = true ∧ i64 x := fun x hx => ⟨hk _ (gp_mem hi) x hx, h.kid _ hpm x hx, kids_i64 hW2 _ x hx⟩
  generalize gp fin i = p at *
  have hkl := kids_len W p
  have hml := mny_lt (gw W p)
  have h1 := loop_run (body := fun n => L13_1 (ev Tryd.prog sg n) n) (fun k => [.int (k + 1 : Nat), .int (mny (gw W p)), .str (sB (t ++ wordsB fin ((kids W p).take k))), .int i, nats fin, heapV W half base next]) (kids W p).length (e := .x 4) (res := [.str (sB (t ++ wordsB fin (kids W p))), .int i, nats fin, heapV W half base next]) (fun k hk' => ?_) (Evt.all fun n => ?_) (by decide)
  · have e0 : t ++ wordsB fin ((kids W p).take 0) = t := by simp [wordsB]
    rw [e0] at h1
    exact h1
  · obtain ⟨hx, hP, h64⟩ := hki _ (gw_mem hk')
    have hkg := kids_gw (W := W) (p := p) (k := k) (by omega)
    have hn := nth_gw (W := W) (i := p + 1 + k) (by omega)
    rw [← hkg] at hn
    have hwk := wordsB_len hfl (l := (kids W p).take k) fun x hx => (hki x (List.mem_of_mem_take hx)).2.2
    have hkl2 : ((kids W p).take k).length ≤ 64 := by rw [List.length_take]; omega
    have hwx := wordB_len hfl h64
    have hw := wordS hf hfl hx hP h64
    rw [take_gw hk', wordsB_snoc, ← List.append_assoc]
    have c1 : leI ((k + 1 : Nat) : Int) (mny (gw W p)) = true := leT (by omega)
    have c2 : geI (i : Int) 0 = true := geT (by omega)
    have c3 : ltI (i : Int) fin.length = true := ltT (by omega)
    have w2 : IntKind.i64.wrap ((p : Int) + ((k + 1 : Nat) : Int)) = ((p + 1 + k : Nat) : Int) := by rw [wrap64 (by omega) (by omega)]; omega
    have c4 : geI ((p + 1 + k : Nat) : Int) 0 = true := geT (by omega)
    have c5 : ltI ((p + 1 + k : Nat) : Int) W.length = true := ltT (by omega)
    have w1 : IntKind.i64.wrap (((k + 1 : Nat) : Int) + 1) = ((k + 1 + 1 : Nat) : Int) := by rw [wrap64 (by omega) (by omega)]; omega
    have hi' : ((i : Int)).toNat = i := by omega
    have hpk : (((p + 1 + k : Nat) : Int)).toNat = p + 1 + k := by omega
    have c6 : leI ((sB (t ++ wordsB fin ((kids W p).take k) ++ wordB fin (gw (kids W p) k))).size : Int) 9223372036854775807 = true := leT (by rw [size_sB, List.length_append, List.length_append]; omega)
    refine hw.mp fun n q => ?_
    simp only [L13_1, nth_0, nth_1, nth_2, nth_3, nth_4, nth_5, toInt_int, toList_list, toStr_str, fld_agg, hnl, hWl, c1, c2, c3, iff_true', hi', hn1, w2, c4, c5, hpk, hn, q, Option.bind_some, catB_sB, c6, w1]
  · rw [List.take_length]
    have c1 : leI (((kids W p).length + 1 : Nat) : Int) (mny (gw W p)) = false := leF (by omega)
    simp only [L13_1, nth_0, nth_1, nth_2, nth_3, nth_4, nth_5, toInt_int, c1, iff_false']
theorem blocksS2 (h : SOk W half base next P) (hW : W.length ≤ 1048576) (hW2 : ∀ w, w ∈ W → i64 w) (hR2 : ∀ w, w ∈ R → i64 w) (hRl : R.length ≤ 1048576) (hf : Way P fin) (hfl : fin.length ≤ 3000) (hk : ∀ q, q ∈ fin → ∀ x, x ∈ kids W q → inW fin x) :
    Evt fun n => loopEv (L13_2 (ev Tryd.prog sg n) n) n [.int 0, nats fin, .str (sB (shapeB W fin R [])), heapV W half base next] = some (.x 2, [.str (sB (shapeB W fin R fin))]) := by
  have hnl := natsLen fin
  have hWl := wordsLen W
  have h1 := loop_run (body := fun n => L13_2 (ev Tryd.prog sg n) n) (fun k => [.int k, nats fin, .str (sB (shapeB W fin R (fin.take k))), heapV W half base next]) fin.length (e := .x 2) (res := [.str (sB (shapeB W fin R fin))]) (fun k hk' => ?_) (Evt.all fun n => ?_) (by decide)
  · exact h1
  · have hpm : gp fin k ∈ P := hf.sub _ (gp_mem hk')
    have hn := nth_gp hk'
    obtain ⟨hm1, hok⟩ := h.mem _ hpm
    have hn2 := nth_gw (W := W) (i := gp fin k) (by omega)
    have hT := shapeB_len hfl hW2 hR2 hRl (fin.take k)
    have hkl : (fin.take k).length ≤ 3000 := by rw [List.length_take]; omega
    have h64 := gw_i64 hW2 (gp fin k)
    have hhl := headB_len h64
    have hkk := kids_len W (gp fin k)
    have hml := mny_lt (gw W (gp fin k))
    have hwl := wordsB_len hfl (kids_i64 hW2 (gp fin k))
    have hli := lineS h hW hW2 hf hfl hk hk' (t := shapeB W fin R (fin.take k) ++ headB (gw W (gp fin k))) (by rw [List.length_append]; omega)
    have eB : shapeB W fin R (fin.take k) ++ headB (gw W (gp fin k)) ++ wordsB fin (kids W (gp fin k)) ++ [10] = shapeB W fin R (fin.take (k + 1)) := by
      rw [take_gp hk', shapeB_snoc]
      simp [blockB]
    have cB : leI ((sB (shapeB W fin R (fin.take k) ++ headB (gw W (gp fin k)) ++ wordsB fin (kids W (gp fin k)) ++ [10])).size : Int) 9223372036854775807 = true := leT (by simp only [size_sB, List.length_append, List.length_cons, List.length_nil]; omega)
    rw [eB] at cB
    obtain ⟨o1, o2, _⟩ := okHd_out hok
    obtain ⟨r1, r2⟩ := h64
    have htg := tagS_eq (w := gw W (gp fin k)) (by omega) r2
    have ho := ofS (gw W (gp fin k))
    rw [htg] at ho
    have hd := digS (n := gw W (gp fin k) / 2 / 128) (by omega) (by omega)
    have c1 : ltI (k : Int) fin.length = true := ltT (by omega)
    have c2 : geI (k : Int) 0 = true := geT (by omega)
    have c3 : geI (gp fin k : Int) 0 = true := geT (by omega)
    have c4 : ltI (gp fin k : Int) W.length = true := ltT (by omega)
    have w1 : IntKind.i64.wrap ((k : Int) + 1) = ((k + 1 : Nat) : Int) := by rw [wrap64 (by omega) (by omega)]; omega
    have hk'' : ((k : Int)).toNat = k := by omega
    have hp' : ((gp fin k : Int)).toNat = gp fin k := by omega
    have l2 := itoa_len (n := gw W (gp fin k) / 2 / 128) (by omega) (by omega)
    refine Evt.mp3 ho hd hli fun n q1 q2 q3 => ?_
    generalize shapeB W fin R (fin.take (k + 1)) = T' at *
    generalize shapeB W fin R (fin.take k) = T at *
    cases hfn : eqI (gw W (gp fin k) / 2 % 2) 1 with
    | true =>
      have eh : T ++ headB (gw W (gp fin k)) = T ++ [102, 117, 110] ++ [32] ++ Lib.itoa (gw W (gp fin k) / 2 / 128) := by simp [headB, hfn]
      rw [eh] at q3 eB
      rw [hfn] at q1
      simp (disch := ((try simp only [size_sB, List.length_append, List.length_cons, List.length_nil]); omega)) only [L13_2, nth_0, nth_1, nth_2, nth_3, nth_4, nth_5, toInt_int, toList_list, toBool_bool, toStr_str, fld_agg, hnl, hWl, c1, c2, c3, c4, iff_true', hk'', hn, hp', hn2, q1, q2, Option.bind_some, thenN_n, dgB, shFun3, ot32, ot10, catB_sB, leT, q3, thenE_some, passB_same, w1]
      rw [eB]
    | false =>
      have eh : T ++ headB (gw W (gp fin k)) = T ++ [99, 111, 110] ++ [32] ++ Lib.itoa (gw W (gp fin k) / 2 / 128) := by simp [headB, hfn]
      rw [eh] at q3 eB
      rw [hfn] at q1
      simp (disch := ((try simp only [size_sB, List.length_append, List.length_cons, List.length_nil]); omega)) only [L13_2, nth_0, nth_1, nth_2, nth_3, nth_4, nth_5, toInt_int, toList_list, toBool_bool, toStr_str, fld_agg, hnl, hWl, c1, c2, c3, c4, iff_true', iff_false', hk'', hn, hp', hn2, q1, q2, Option.bind_some, thenN_n, dgB, shCon3, ot32, ot10, catB_sB, leT, q3, thenE_some, passB_same, w1]
      rw [eB]
  · rw [List.take_length]
    have c1 : ltI (fin.length : Int) fin.length = false := ltF (by omega)
    simp only [L13_2, nth_0, nth_1, nth_2, nth_3, toInt_int, toList_list, hnl, c1, iff_false']
theorem shapeS (h : SOk W half base next P) (hW : W.length ≤ 1048576) (hW2 : ∀ w, w ∈ W → i64 w) (hR : ∀ x, x ∈ R → there P x = true) (hR2 : ∀ w, w ∈ R → i64 w) (hRl : R.length ≤ 1048576) (hfin : fin = bfs W P.length 0 (addAll [] R)) (hf : Way P fin) (hfl : fin.length ≤ 3000) (hk : ∀ q, q ∈ fin → ∀ x, x ∈ kids W q → inW fin x) (hRf : ∀ x, x ∈ R → inW fin x) (hok : Rn 31 [heapV W half base next, words R] [.bool true]) :
    Rn 13 [heapV W half base next, words R] [.str (sB (shapeB W fin R fin))] := by
  have ho := orderS h hW hR hRl
  rw [← hfin] at ho
  have hr := rootsS2 hf hfl (fun x hx => ⟨hRf x hx, hR x hx, hR2 x hx⟩) hRl (heapV W half base next)
  have hb := blocksS2 h hW hW2 hR2 hRl hf hfl hk
  have e0 : wordsB fin R ++ [10] = shapeB W fin R [] := by simp [shapeB]
  have hT := shapeB_len hfl hW2 hR2 hRl []
  have c1 : leI ((sB (shapeB W fin R [])).size : Int) 9223372036854775807 = true := leT (by rw [size_sB]; simp at hT; omega)
  refine Is.of e13 (hok.mp4 ho hr hb fun n q1 q2 q3 q4 => ?_)
  simp only [F13, nth_0, nth_1, nth_2, q1, q2, Option.bind_some, toBool_bool, Bool.not_true, iff_false', toStr_str, ot0, q3, thenE_some, passB_same, thenN_n, ot10, catB_sB, e0, c1, iff_true', q4]
end
end Go.Proofs.YthmhgnnaihkjaaaDoor.GFnExactShape
