/- What functions of the program and of the reference come to, for the law FnExactRenamed. Each under the conditions that it names. -/
import Derived.Test.YthmhgnnaihkjaaaDoorHFnExactRenamed
namespace Go.Proofs.YthmhgnnaihkjaaaDoor.GFnExactRenamed
open Go Go.Rsc Go.Proofs.YthmhgnnaihkjaaaDoor
set_option maxRecDepth 100000
set_option linter.unusedVariables false
set_option linter.unusedSimpArgs false
theorem toks_len {l : List UInt8} : ∀ (d i : Nat) (out o : List PV), toks l d i out = .inl o → out.length ≤ i → i ≤ l.length → o.length ≤ l.length
  | 0, i, out, o, h, h1, h2 => by cases h; omega
  | d + 1, i, out, o, h, h1, h2 => by
    simp only [toks] at h
    split at h
    · rename_i hlt
      cases hn : nextT l i with
      | skip => rw [hn] at h; exact toks_len d (i + 1) out o h (by omega) (by omega)
      | tok t to =>
        rw [hn] at h
        obtain ⟨t1, t2⟩ := next_to hlt hn
        exact toks_len d to (out ++ [t]) o h (by simp; omega) t2
      | bad => rw [hn] at h; cases h
    · cases h; omega
/-- tokens in their order, from a place on -/
def chn (L : Nat) : List PV → Nat → Prop
  | [], a => a ≤ L
  | p :: ps, a => ∃ (k v : Int) (i : Nat) (t : List UInt8), p = tokV k i v t ∧ a ≤ i ∧ i + t.length ≤ L ∧ chn L ps (i + t.length)
theorem chn_mono {L a b : Nat} (h : a ≤ b) : ∀ {ps : List PV}, chn L ps b → chn L ps a
  | [], h1 => Nat.le_trans h h1
  | _ :: _, ⟨k, v, i, t, e, h1, h2, h3⟩ => ⟨k, v, i, t, e, Nat.le_trans h h1, h2, h3⟩
theorem chn_le {L a : Nat} : ∀ {ps : List PV}, chn L ps a → a ≤ L
  | [], h1 => h1
  | _ :: _, ⟨k, v, i, t, e, h1, h2, h3⟩ => by omega
theorem next_tok {l : List UInt8} {i : Nat} (hi : i < l.length) {t : PV} {to : Nat} (h : nextT l i = .tok t to) : ∃ (k v : Int) (w : List UInt8), t = tokV k i v w ∧ i + w.length ≤ to := by
  have hw : (wAt l i).length ≤ wLen l i := by unfold wAt; rw [List.length_take]; omega
  unfold nextT at h
  split at h
  · cases h
  · split at h
    · cases h; exact ⟨1, 0, [40], rfl, by simp⟩
    · split at h
      · cases h; exact ⟨2, 0, [41], rfl, by simp⟩
      · split at h
        · cases h; exact ⟨3, _, wAt l i, rfl, by omega⟩
        · split at h
          · cases h; exact ⟨4, 0, wAt l i, rfl, by omega⟩
          · cases h
theorem toks_chn {l : List UInt8} : ∀ (d i : Nat) (out o : List PV), toks l d i out = .inl o → i ≤ l.length → ∃ o2, o = out ++ o2 ∧ chn l.length o2 i
  | 0, i, out, o, h, h2 => by cases h; exact ⟨[], by simp, h2⟩
  | d + 1, i, out, o, h, h2 => by
    simp only [toks] at h
    split at h
    · rename_i hlt
      cases hn : nextT l i with
      | skip =>
        rw [hn] at h
        obtain ⟨o2, e, hc⟩ := toks_chn d (i + 1) out o h (by omega)
        exact ⟨o2, e, chn_mono (by omega) hc⟩
      | tok t to =>
        rw [hn] at h
        obtain ⟨t1, t2⟩ := next_to hlt hn
        obtain ⟨k, v, w, et, hw⟩ := next_tok hlt hn
        obtain ⟨o2, e, hc⟩ := toks_chn d to (out ++ [t]) o h t2
        exact ⟨t :: o2, by rw [e]; simp, k, v, i, w, et, Nat.le_refl i, by omega, chn_mono hw hc⟩
      | bad => rw [hn] at h; cases h
    · cases h; exact ⟨[], by simp, h2⟩
theorem tokL_chn {l : List UInt8} {o : List PV} (h : tokL l = .inl o) : o.length ≤ 4000 ∧ l.length ≤ 4000 ∧ chn l.length o 0 := by
  unfold tokL at h
  split at h
  · rename_i hl
    have h1 := toks_len _ _ _ _ h (by simp) (by omega)
    obtain ⟨o2, e, hc⟩ := toks_chn _ _ _ _ h (by omega)
    rw [List.nil_append] at e
    subst e
    exact ⟨by omega, hl, hc⟩
  · cases h
/-! ### Whether a number is listed -/
@[reducible] def ints (R : List Int) : PV := .list (R.map PV.int)
theorem nth_ints {R : List Int} {i : Nat} (h : i < R.length) : nth (R.map PV.int) i = .int (R.getD i 0) := by simp [nth, List.getD_eq_getElem?_getD, h]
def hasR (R : List Int) (x : Int) : Bool := !R.all fun y => !eqI y x
theorem eqI_comm (x y : Int) : eqI x y = eqI y x := by
  by_cases h : x = y
  · rw [eqT h, eqT h.symm]
  · rw [eqF h, eqF (Ne.symm h)]
theorem range_i (f : Int → Bool) (o : List Int) : ((List.range o.length).all fun i => f (o.getD i 0)) = o.all f := by
  rw [Bool.eq_iff_iff, List.all_eq_true, List.all_eq_true]
  constructor
  · intro h x hx
    obtain ⟨i, hi, rfl⟩ := List.getElem_of_mem hx
    have := h i (by simpa using hi)
    simpa [List.getD_eq_getElem?_getD, hi] using this
  · intro h i hi
    have hi : i < o.length := by simpa using hi
    exact h _ (by simp [List.getD_eq_getElem?_getD, hi])
section
variable {R : List Int}
theorem hasS (hR : R.length ≤ 1048576) (x : Int) : Rn 49 [ints R, .int x] [.bool (hasR R x)] := by
  have hl : (R.map PV.int).length = R.length := List.length_map ..
  have h1 := all_loop (body := fun n => L49_0 (ev Tryd.prog sg n) n) (pay := fun i => [.int i, ints R, .int x]) (c := fun i => !eqI (R.getD i 0) x) (e1 := .x 0) (r1 := []) (e2 := .r) (r2 := [.bool true]) R.length (by simp) (by simp) (fun i hi hc => Evt.all fun n => ?_) (fun i hi hc => Evt.all fun n => ?_) (Evt.all fun n => ?_)
  · rw [range_i (fun y => !eqI y x) R] at h1
    unfold hasR
    refine Is.of e49 (h1.mp fun n q => ?_)
    simp only [show ((0 : Nat) : Int) = 0 from rfl] at q
    cases hc : (R.all fun y => !eqI y x)
    · rw [hc, if_neg (by decide)] at q
      simp only [F49, nth_0, nth_1, q, thenE_some]
      rfl
    · rw [hc, if_pos rfl] at q
      simp only [F49, nth_0, nth_1, q, thenE_some, passB_same, thenN_n]
      rfl
  · have hn := nth_ints hi
    have hc : eqI (R.getD i 0) x = false := by simpa only [Bool.not_eq_true'] using hc
    have c1 : ltI (i : Int) R.length = true := ltT (by omega)
    have c2 : geI (i : Int) 0 = true := geT (by omega)
    have hk : ((i : Int)).toNat = i := by omega
    have w1 : IntKind.i64.wrap ((i : Int) + 1) = ((i + 1 : Nat) : Int) := by rw [wrap64 (by omega) (by omega)]; omega
    simp only [L49_0, nth_0, nth_1, nth_2, toInt_int, toList_list, hl, c1, c2, iff_true', hk, hn, hc, iff_false', w1]
  · have hn := nth_ints hi
    have hc : eqI (R.getD i 0) x = true := by simpa only [Bool.not_eq_false'] using hc
    have c1 : ltI (i : Int) R.length = true := ltT (by omega)
    have c2 : geI (i : Int) 0 = true := geT (by omega)
    have hk : ((i : Int)).toNat = i := by omega
    simp only [L49_0, nth_0, nth_1, nth_2, toInt_int, toList_list, hl, c1, c2, iff_true', hk, hn, hc]
  · have c1 : ltI (R.length : Int) R.length = false := ltF (by omega)
    simp only [L49_0, nth_0, nth_1, nth_2, toInt_int, toList_list, hl, c1, iff_false']
theorem idxLoop (hR : R.length ≤ 1048576) (x : Int) : ∀ (j i : Nat), i + j = R.length → ∃ r : Nat, Evt fun n => ∀ m, j + 1 ≤ m → loopEv (L79_0 (ev Tryd.prog sg n) n) m [.int i, .int R.length, .int x, ints R] = if (R.drop i).all fun y => !eqI y x then some (.x 0, []) else some (.r, [.int r]) := by
  have hl : (R.map PV.int).length = R.length := List.length_map ..
  intro j
  induction j with
  | zero =>
    intro i hi
    refine ⟨0, Evt.all fun n m hm => ?_⟩
    obtain ⟨m, rfl⟩ : ∃ m', m = m' + 1 := ⟨m - 1, by omega⟩
    have e : R.drop i = [] := List.drop_eq_nil_iff.2 (by omega)
    have c1 : ltI (i : Int) R.length = false := ltF (by omega)
    have hB : L79_0 (ev Tryd.prog sg n) n [.int i, .int R.length, .int x, ints R] = some (.x 0, []) := by
      simp only [L79_0, nth_0, nth_1, toInt_int, c1, iff_false']
    simp only [loopEv, hB, thenN_x, passE_eq, e, List.all_nil, if_true]
  | succ j ih =>
    intro i hi
    have hd : R.drop i = R.getD i 0 :: R.drop (i + 1) := by
      rw [List.drop_eq_getElem_cons (by omega)]
      simp [List.getD_eq_getElem?_getD, show i < R.length by omega]
    have c1 : ltI (i : Int) R.length = true := ltT (by omega)
    have c2 : geI (i : Int) 0 = true := geT (by omega)
    have hk : ((i : Int)).toNat = i := by omega
    have w1 : IntKind.i64.wrap ((i : Int) + 1) = ((i + 1 : Nat) : Int) := by rw [wrap64 (by omega) (by omega)]; omega
    have hn := nth_ints (R := R) (i := i) (by omega)
    have hcm := eqI_comm x (R.getD i 0)
    rw [hd]
    cases hc : eqI (R.getD i 0) x with
    | false =>
      rw [hc] at hcm
      obtain ⟨r, hr⟩ := ih (i + 1) (by omega)
      refine ⟨r, hr.mp fun n q2 m hm => ?_⟩
      obtain ⟨m, rfl⟩ : ∃ m', m = m' + 1 := ⟨m - 1, by omega⟩
      have hB : L79_0 (ev Tryd.prog sg n) n [.int i, .int R.length, .int x, ints R] = some (.n, [.int (i + 1 : Nat), .int R.length, .int x, ints R]) := by
        simp only [L79_0, nth_0, nth_1, nth_2, nth_3, toInt_int, toList_list, hl, c1, c2, iff_true', hk, hn, hcm, iff_false', w1]
      simp only [loopEv, hB, thenN_n]
      rw [q2 m (by omega)]
      simp only [List.all_cons, hc, Bool.not_false, Bool.true_and]
    | true =>
      rw [hc] at hcm
      refine ⟨i, Evt.all fun n m hm => ?_⟩
      obtain ⟨m, rfl⟩ : ∃ m', m = m' + 1 := ⟨m - 1, by omega⟩
      have hB : L79_0 (ev Tryd.prog sg n) n [.int i, .int R.length, .int x, ints R] = some (.r, [.int i]) := by
        simp only [L79_0, nth_0, nth_1, nth_2, nth_3, toInt_int, toList_list, hl, c1, c2, iff_true', hk, hn, hcm]
      simp only [loopEv, hB, List.all_cons, hc, Bool.not_true, Bool.false_and, Bool.false_eq_true, if_false]
      rfl
theorem hasI (hR : R.length ≤ 1048576) (x : Int) : Rn 50 [ints R, .int x] [.bool (hasR R x)] := by
  have hl : (R.map PV.int).length = R.length := List.length_map ..
  obtain ⟨r, hr⟩ := idxLoop hR x R.length 0 (by omega)
  have h1 : Rn 79 [ints R, .int x] [.int (if (R.all fun y => !eqI y x) then -1 else (r : Int))] := by
    refine Is.of e79 (hr.mp2 (Evt.ge (R.length + 1)) fun n q1 q2 => ?_)
    have q1' : loopEv (L79_0 (ev Tryd.prog sg n) n) n [.int 0, .int R.length, .int x, ints R] = _ := q1 n q2
    rw [List.drop_zero] at q1'
    cases hc : (R.all fun y => !eqI y x) <;> rw [hc] at q1'
    · simp only [Bool.false_eq_true, if_false] at q1' ⊢
      simp only [F79, nth_0, nth_1, toList_list, hl, q1', thenE_some]
      rfl
    · simp only [if_true] at q1' ⊢
      simp only [F79, nth_0, nth_1, toList_list, hl, q1', thenE_some, passB_same, thenN_n]
  refine Is.of e50 (h1.mp fun n q => ?_)
  simp only [F50, nth_0, nth_1, q, Option.bind_some, toInt_int]
  unfold hasR
  cases hc : (R.all fun y => !eqI y x)
  · have : geI (r : Int) 0 = true := geT (by omega)
    simp [this]
  · rfl
end
/-! ### The text with the places renamed -/
def renT (l nm : List UInt8) (R : List Int) : List PV → List UInt8 → Nat → List UInt8 × Nat
  | [], B, f => (B, f)
  | p :: ps, B, f => if eqI (p.fld 0).toInt 4 && hasR R (p.fld 1).toInt then renT l nm R ps (B ++ (l.drop f).take ((p.fld 1).toInt.toNat - f) ++ nm) ((p.fld 1).toInt.toNat + (p.fld 3).toStr.size) else renT l nm R ps B f
section
variable {l nm : List UInt8} {R : List Int}
theorem ren_le : ∀ (ps : List PV) (B : List UInt8) (f a k : Nat), chn l.length ps a → f ≤ a → B.length ≤ f + k * nm.length → (renT l nm R ps B f).2 ≤ l.length ∧ (renT l nm R ps B f).1.length ≤ l.length + (k + ps.length) * nm.length
  | [], B, f, a, k, hc, hf, hB => ⟨Nat.le_trans hf hc, by have hc : a ≤ l.length := hc; simp only [renT, List.length_nil, Nat.add_zero]; omega⟩
  | _ :: ps, B, f, a, k, ⟨kd, v, i, t, rfl, h1, h2, h3⟩, hf, hB => by
    simp only [renT]
    have e1 : (((tokV kd i v t).fld 1).toInt.toNat) = i := by show ((i : Int)).toNat = i; omega
    have e2 : ((tokV kd i v t).fld 3).toStr.size = t.length := size_sB t
    rw [e1, e2]
    have hk : (k + 1) * nm.length = k * nm.length + nm.length := Nat.succ_mul ..
    split
    · have := ren_le ps (B ++ (l.drop f).take (i - f) ++ nm) (i + t.length) (i + t.length) (k + 1) h3 (Nat.le_refl _) (by simp only [List.length_append, List.length_take, List.length_drop]; omega)
      rw [show k + (tokV kd i v t :: ps).length = k + 1 + ps.length by simp; omega]
      exact this
    · have := ren_le ps B f (i + t.length) k h3 (by omega) hB
      refine ⟨this.1, Nat.le_trans this.2 ?_⟩
      have hm : (k + ps.length) * nm.length ≤ (k + (tokV kd i v t :: ps).length) * nm.length := Nat.mul_le_mul_right _ (by simp)
      omega
theorem szA (a b : List UInt8) : (sB (a ++ b)).size = a.length + b.length := by rw [size_sB, List.length_append]
theorem renI {o : List PV} (ho : o.length ≤ 4000) (hl : l.length ≤ 4000) (hn : nm.length ≤ 1048576) (hR : R.length ≤ 1048576) {i : Nat} (hi : i < o.length) {B : List UInt8} {f a k v : Int} {at_ : Nat} {t : List UInt8} {fn : Nat} (e : nth o i = tokV k at_ v t) (ef : f = fn) (hf : fn ≤ at_) (ht : at_ + t.length ≤ l.length) (hB : B.length ≤ 5000000000) :
    Evt fun n => L22_0 (ev Tryd.prog sg n) n [.int i, .int o.length, ints R, .str (sB nm), .str (sB B), .str (sB l), .int f, .list o] = some (.n, if eqI k 4 && hasR R at_ then [.int (i + 1 : Nat), .int o.length, ints R, .str (sB nm), .str (sB (B ++ (l.drop fn).take (at_ - fn) ++ nm)), .str (sB l), .int ((at_ + t.length : Nat) : Int), .list o] else [.int (i + 1 : Nat), .int o.length, ints R, .str (sB nm), .str (sB B), .str (sB l), .int f, .list o]) := by
  subst ef
  have c1 : ltI (i : Int) o.length = true := ltT (by omega)
  have c2 : geI (i : Int) 0 = true := geT (by omega)
  have hk : ((i : Int)).toNat = i := by omega
  have w1 : IntKind.i64.wrap ((i : Int) + 1) = ((i + 1 : Nat) : Int) := by rw [wrap64 (by omega) (by omega)]; omega
  have f0 : (tokV k at_ v t).fld 0 = .int k := rfl
  have f1 : (tokV k at_ v t).fld 1 = .int at_ := rfl
  have f3 : (tokV k at_ v t).fld 3 = .str (sB t) := rfl
  have hs : (sB l).size = l.length := size_sB _
  have ts : (sB t).size = t.length := size_sB _
  have tf : (true == true) = true := rfl
  have ft : (false == true) = false := rfl
  cases h4 : eqI k 4 with
  | false =>
    refine Evt.all fun n => ?_
    simp only [L22_0, nth_0, nth_1, nth_2, nth_3, nth_4, nth_5, nth_6, nth_7, toInt_int, toList_list, toStr_str, c1, c2, iff_true', hk, e, f0, h4, ft, iff_false', Option.bind_some, selB_false, toBool_bool, thenN_n, w1, Bool.false_and, Bool.false_eq_true, if_false]
  | true =>
    have hh := hasI hR (at_ : Int)
    have d1 : geI (fn : Int) 0 = true := geT (by omega)
    have d2 : leI (fn : Int) at_ = true := leT (by omega)
    have d3 : leI (at_ : Int) l.length = true := leT (by omega)
    have k1 : ((fn : Int)).toNat = fn := by omega
    have k2 : ((at_ : Int)).toNat = at_ := by omega
    have hx : (sB l).extract fn at_ = sB ((l.drop fn).take (at_ - fn)) := ext_sB ..
    have hlen : ((l.drop fn).take (at_ - fn)).length ≤ 4000 := by simp only [List.length_take, List.length_drop]; omega
    have d4 : leI (((((l.drop fn).take (at_ - fn)).length + nm.length : Nat)) : Int) 9223372036854775807 = true := leT (by omega)
    have d5 : leI ((B.length + (((l.drop fn).take (at_ - fn)).length + nm.length) : Nat) : Int) 9223372036854775807 = true := leT (by omega)
    have w2 : IntKind.i64.wrap ((at_ : Int) + (t.length : Int)) = ((at_ + t.length : Nat) : Int) := by rw [wrap64 (by omega) (by omega)]; omega
    cases hc : hasR R at_ with
    | false =>
      rw [hc] at hh
      refine hh.mp fun n q => ?_
      simp only [L22_0, nth_0, nth_1, nth_2, nth_3, nth_4, nth_5, nth_6, nth_7, toInt_int, toList_list, toStr_str, c1, c2, iff_true', hk, e, f0, f1, h4, tf, iff_false', selB_true, q, Option.bind_some, toBool_bool, thenN_n, w1, Bool.and_false, Bool.false_eq_true, if_false]
    | true =>
      rw [hc] at hh
      refine hh.mp fun n q => ?_
      simp only [L22_0, nth_0, nth_1, nth_2, nth_3, nth_4, nth_5, nth_6, nth_7, toInt_int, toList_list, toStr_str, c1, c2, iff_true', hk, e, f0, f1, f3, h4, tf, selB_true, q, Option.bind_some, toBool_bool, d1, d2, hs, d3, k1, k2, hx, catB_sB, szA, List.length_append, d4, d5, ts, w2, thenN_n, w1, Bool.and_true, if_true, List.append_assoc]
theorem renS {o : List PV} (ho : o.length ≤ 4000) (hl : l.length ≤ 4000) (hn : nm.length ≤ 1048576) (hR : R.length ≤ 1048576) {i : Nat} (hi : i < o.length) {B : List UInt8} {f a k v : Int} {at_ : Nat} {t : List UInt8} {fn : Nat} (e : nth o i = tokV k at_ v t) (ef : f = fn) (hf : fn ≤ at_) (ht : at_ + t.length ≤ l.length) (hB : B.length ≤ 5000000000) :
    Evt fun n => L21_0 (ev Tryd.prog sg n) n [.int i, .list o, ints R, .str (sB nm), .str (sB B), .str (sB l), .int f] = some (.n, if eqI k 4 && hasR R at_ then [.int (i + 1 : Nat), .list o, ints R, .str (sB nm), .str (sB (B ++ (l.drop fn).take (at_ - fn) ++ nm)), .str (sB l), .int ((at_ + t.length : Nat) : Int)] else [.int (i + 1 : Nat), .list o, ints R, .str (sB nm), .str (sB B), .str (sB l), .int f]) := by
  subst ef
  have c1 : ltI (i : Int) o.length = true := ltT (by omega)
  have c2 : geI (i : Int) 0 = true := geT (by omega)
  have hk : ((i : Int)).toNat = i := by omega
  have w1 : IntKind.i64.wrap ((i : Int) + 1) = ((i + 1 : Nat) : Int) := by rw [wrap64 (by omega) (by omega)]; omega
  have f0 : (tokV k at_ v t).fld 0 = .int k := rfl
  have f1 : (tokV k at_ v t).fld 1 = .int at_ := rfl
  have f3 : (tokV k at_ v t).fld 3 = .str (sB t) := rfl
  have hs : (sB l).size = l.length := size_sB _
  have ts : (sB t).size = t.length := size_sB _
  have tf : (true == true) = true := rfl
  have ft : (false == true) = false := rfl
  cases h4 : eqI k 4 with
  | false =>
    refine Evt.all fun n => ?_
    simp only [L21_0, nth_0, nth_1, nth_2, nth_3, nth_4, nth_5, nth_6, toInt_int, toList_list, toStr_str, c1, c2, iff_true', hk, e, f0, h4, ft, iff_false', Option.bind_some, selB_false, toBool_bool, thenN_n, w1, Bool.false_and, Bool.false_eq_true, if_false]
  | true =>
    have hh := hasS hR (at_ : Int)
    have d1 : geI (fn : Int) 0 = true := geT (by omega)
    have d2 : leI (fn : Int) at_ = true := leT (by omega)
    have d3 : leI (at_ : Int) l.length = true := leT (by omega)
    have k1 : ((fn : Int)).toNat = fn := by omega
    have k2 : ((at_ : Int)).toNat = at_ := by omega
    have hx : (sB l).extract fn at_ = sB ((l.drop fn).take (at_ - fn)) := ext_sB ..
    have hlen : ((l.drop fn).take (at_ - fn)).length ≤ 4000 := by simp only [List.length_take, List.length_drop]; omega
    have d4 : leI ((B.length + ((l.drop fn).take (at_ - fn)).length : Nat) : Int) 9223372036854775807 = true := leT (by omega)
    have d5 : leI ((B.length + ((l.drop fn).take (at_ - fn)).length + nm.length : Nat) : Int) 9223372036854775807 = true := leT (by omega)
    have w2 : IntKind.i64.wrap ((at_ : Int) + (t.length : Int)) = ((at_ + t.length : Nat) : Int) := by rw [wrap64 (by omega) (by omega)]; omega
    cases hc : hasR R at_ with
    | false =>
      rw [hc] at hh
      refine hh.mp fun n q => ?_
      simp only [L21_0, nth_0, nth_1, nth_2, nth_3, nth_4, nth_5, nth_6, toInt_int, toList_list, toStr_str, c1, c2, iff_true', hk, e, f0, f1, h4, tf, iff_false', selB_true, q, Option.bind_some, toBool_bool, thenN_n, w1, Bool.and_false, Bool.false_eq_true, if_false]
    | true =>
      rw [hc] at hh
      refine hh.mp fun n q => ?_
      simp only [L21_0, nth_0, nth_1, nth_2, nth_3, nth_4, nth_5, nth_6, toInt_int, toList_list, toStr_str, c1, c2, iff_true', hk, e, f0, f1, f3, h4, tf, selB_true, q, Option.bind_some, toBool_bool, d1, d2, hs, d3, k1, k2, hx, catB_sB, szA, List.length_append, d4, d5, ts, w2, thenN_n, w1, Bool.and_true, if_true]
theorem renIS {o : List PV} (ho : o.length ≤ 4000) (hl : l.length ≤ 4000) (hn : nm.length ≤ 1048576) (hR : R.length ≤ 1048576) : ∀ (j i : Nat) (B : List UInt8) (f a : Nat), i + j = o.length → chn l.length (o.drop i) a → f ≤ a → B.length ≤ f + i * nm.length →
    (Evt fun n => ∀ m, j + 1 ≤ m → loopEv (L22_0 (ev Tryd.prog sg n) n) m [.int i, .int o.length, ints R, .str (sB nm), .str (sB B), .str (sB l), .int f, .list o] = some (.x 0, [.str (sB (renT l nm R (o.drop i) B f).1), .str (sB l), .int (renT l nm R (o.drop i) B f).2])) ∧
    (Evt fun n => ∀ m, j + 1 ≤ m → loopEv (L21_0 (ev Tryd.prog sg n) n) m [.int i, .list o, ints R, .str (sB nm), .str (sB B), .str (sB l), .int f] = some (.x 0, [.str (sB (renT l nm R (o.drop i) B f).1), .str (sB l), .int (renT l nm R (o.drop i) B f).2])) := by
  intro j
  induction j with
  | zero =>
    intro i B f a hi hc hf hB
    have e : o.drop i = [] := List.drop_eq_nil_iff.2 (by omega)
    have c1 : ltI (i : Int) o.length = false := ltF (by omega)
    rw [e]
    simp only [renT]
    refine ⟨Evt.all fun n m hm => ?_, Evt.all fun n m hm => ?_⟩ <;> obtain ⟨m, rfl⟩ : ∃ m', m = m' + 1 := ⟨m - 1, by omega⟩
    · have hb : L22_0 (ev Tryd.prog sg n) n [.int i, .int o.length, ints R, .str (sB nm), .str (sB B), .str (sB l), .int f, .list o] = some (.x 0, [.str (sB B), .str (sB l), .int f]) := by
        simp only [L22_0, nth_0, nth_1, nth_2, nth_3, nth_4, nth_5, nth_6, toInt_int, c1, iff_false']
      simp only [loopEv, hb, thenN_x, passE_eq]
    · have hb : L21_0 (ev Tryd.prog sg n) n [.int i, .list o, ints R, .str (sB nm), .str (sB B), .str (sB l), .int f] = some (.x 0, [.str (sB B), .str (sB l), .int f]) := by
        simp only [L21_0, nth_0, nth_1, nth_2, nth_3, nth_4, nth_5, nth_6, toInt_int, toList_list, c1, iff_false']
      simp only [loopEv, hb, thenN_x, passE_eq]
  | succ j ih =>
    intro i B f a hi hc hf hB
    have hd : o.drop i = nth o i :: o.drop (i + 1) := by
      rw [List.drop_eq_getElem_cons (by omega)]
      simp [nth, List.getD_eq_getElem?_getD, show i < o.length by omega]
    rw [hd] at hc ⊢
    obtain ⟨k, v, at_, t, e, h1, h2, h3⟩ := hc
    have hal := chn_le h3
    have hm1 : i * nm.length ≤ 4000 * 1048576 := Nat.mul_le_mul (by omega) hn
    have hk : (i + 1) * nm.length = i * nm.length + nm.length := Nat.succ_mul ..
    have sI := renI ho hl hn hR (i := i) (by omega) (B := B) (a := 0) e rfl (show f ≤ at_ by omega) h2 (by omega)
    have sS := renS ho hl hn hR (i := i) (by omega) (B := B) (a := 0) e rfl (show f ≤ at_ by omega) h2 (by omega)
    have e1 : (((tokV k at_ v t).fld 1).toInt.toNat) = at_ := by show ((at_ : Int)).toNat = at_; omega
    have e2 : ((tokV k at_ v t).fld 3).toStr.size = t.length := size_sB t
    have e3 : ((tokV k at_ v t).fld 1).toInt = at_ := rfl
    have e4 : ((tokV k at_ v t).fld 0).toInt = k := rfl
    rw [e]
    simp only [renT]
    rw [e1, e2, e3, e4]
    cases hh : eqI k 4 && hasR R at_ with
    | true =>
      rw [hh, if_pos rfl] at sI sS
      rw [if_pos rfl]
      obtain ⟨r1, r2⟩ := ih (i + 1) (B ++ (l.drop f).take (at_ - f) ++ nm) (at_ + t.length) (at_ + t.length) (by omega) h3 (Nat.le_refl _) (by simp only [List.length_append, List.length_take, List.length_drop]; omega)
      refine ⟨sI.mp2 r1 fun n q1 q2 m hm => ?_, sS.mp2 r2 fun n q1 q2 m hm => ?_⟩ <;> obtain ⟨m, rfl⟩ : ∃ m', m = m' + 1 := ⟨m - 1, by omega⟩
      · simp only [loopEv, q1, thenN_n]
        exact q2 m (by omega)
      · simp only [loopEv, q1, thenN_n]
        exact q2 m (by omega)
    | false =>
      rw [hh, if_neg (by decide)] at sI sS
      rw [if_neg (by decide)]
      obtain ⟨r1, r2⟩ := ih (i + 1) B f (at_ + t.length) (by omega) h3 (by omega) (by omega)
      refine ⟨sI.mp2 r1 fun n q1 q2 m hm => ?_, sS.mp2 r2 fun n q1 q2 m hm => ?_⟩ <;> obtain ⟨m, rfl⟩ : ∃ m', m = m' + 1 := ⟨m - 1, by omega⟩
      · simp only [loopEv, q1, thenN_n]
        exact q2 m (by omega)
      · simp only [loopEv, q1, thenN_n]
        exact q2 m (by omega)
end
def renB (l nm : List UInt8) (R : List Int) : List UInt8 := match tokL l with
  | .inl o => (renT l nm R o [] 0).1 ++ l.drop (renT l nm R o [] 0).2
  | .inr _ => []
theorem otE : (⟨#[]⟩ : ByteArray) = sB [] := rfl
theorem renamedIS {l nm : List UInt8} {R : List Int} (hn : nm.length ≤ 1048576) (hR : R.length ≤ 1048576) : Rn 22 [.str (sB l), ints R, .str (sB nm)] [.str (sB (renB l nm R))] ∧ Rn 21 [.str (sB l), ints R, .str (sB nm)] [.str (sB (renB l nm R))] := by
  have ht := tokensI l
  have ht2 := tokensS l
  unfold renB
  cases hk : tokL l with
  | inr a =>
    rw [hk] at ht ht2
    have c0 : neI (a : Int) (-1) = true := neT (by omega)
    have c1 : geI (a : Int) 0 = true := geT (by omega)
    refine ⟨Is.of e22 (ht.mp fun n q => ?_), Is.of e21 (ht2.mp fun n q => ?_)⟩
    · simp only [F22, nth_0, nth_1, q, tokO, Option.bind_some, toInt_int, c0, iff_true', otE]
    · simp only [F21, nth_0, nth_1, q, tokO, Option.bind_some, toInt_int, c1, iff_true', otE]
  | inl o =>
    rw [hk] at ht ht2
    obtain ⟨ho, hl, hc⟩ := tokL_chn hk
    obtain ⟨r1, r2⟩ := renIS (l := l) (nm := nm) (R := R) ho hl hn hR o.length 0 [] 0 0 (by omega) (by rw [List.drop_zero]; exact hc) (Nat.le_refl 0) (by simp)
    rw [List.drop_zero] at r1 r2
    obtain ⟨b1, b2⟩ := ren_le (l := l) (nm := nm) (R := R) o [] 0 0 0 hc (Nat.le_refl 0) (by simp)
    have hm1 : (0 + o.length) * nm.length ≤ 4000 * 1048576 := Nat.mul_le_mul (by omega) hn
    show Rn 22 _ [.str (sB ((renT l nm R o [] 0).1 ++ l.drop (renT l nm R o [] 0).2))] ∧ Rn 21 _ [.str (sB ((renT l nm R o [] 0).1 ++ l.drop (renT l nm R o [] 0).2))]
    generalize (renT l nm R o [] 0).1 = B at *
    generalize (renT l nm R o [] 0).2 = f at *
    have c0 : neI (-1) (-1) = false := rfl
    have c1 : geI (-1) 0 = false := rfl
    have hs : (sB l).size = l.length := size_sB _
    have d1 : geI (f : Int) 0 = true := geT (by omega)
    have d2 : leI (f : Int) l.length = true := leT (by omega)
    have d3 : leI (l.length : Int) l.length = true := leT (by omega)
    have k1 : ((f : Int)).toNat = f := by omega
    have k2 : ((l.length : Int)).toNat = l.length := by omega
    have hx : (sB l).extract f l.length = sB (l.drop f) := by
      rw [ext_sB, List.take_of_length_le (by rw [List.length_drop]; omega)]
    have hdl : (l.drop f).length ≤ 4000 := by rw [List.length_drop]; omega
    have d4 : leI ((B.length + (l.drop f).length : Nat) : Int) 9223372036854775807 = true := leT (by omega)
    refine ⟨Is.of e22 (ht.mp3 r1 (Evt.ge (o.length + 1)) fun n q1 q2 q3 => ?_), Is.of e21 (ht2.mp3 r2 (Evt.ge (o.length + 1)) fun n q1 q2 q3 => ?_)⟩
    · have q2' : loopEv (L22_0 (ev Tryd.prog sg n) n) n [.int 0, .int o.length, ints R, .str (sB nm), .str (sB []), .str (sB l), .int 0, .list o] = _ := q2 n q3
      simp only [F22, nth_0, nth_1, nth_2, q1, tokO, Option.bind_some, toInt_int, toList_list, c0, iff_false', otE, q2', thenE_some, passB_same, thenN_n, toStr_str, hs, d1, d2, d3, iff_true', k1, k2, hx, catB_sB, szA, d4]
    · have q2' : loopEv (L21_0 (ev Tryd.prog sg n) n) n [.int 0, .list o, ints R, .str (sB nm), .str (sB []), .str (sB l), .int 0] = _ := q2 n q3
      simp only [F21, nth_0, nth_1, nth_2, q1, tokO, Option.bind_some, toInt_int, toList_list, c1, iff_false', otE, q2', thenE_some, passB_same, thenN_n, toStr_str, hs, d1, d2, d3, iff_true', k1, k2, hx, catB_sB, szA, d4]
theorem law (s nm : List UInt8) (R : List Int) (hq : WfT Tryd.prog 33 (ints R)) : Rn 6 [.str (sB s), ints R, .str (sB nm)] [.bool true] := by
  have h1 : (sB s).size = s.length := size_sB _
  have h2 : (sB nm).size = nm.length := size_sB _
  have h3 : (R.map PV.int).length = R.length := List.length_map ..
  by_cases b1 : s.length ≤ 1048576
  rotate_left
  · have c1 : gtI (s.length : Int) 1048576 = true := gtT (by omega)
    exact Is.of e6 (Evt.all fun n => by simp only [F6, nth_0, toStr_str, h1, c1, iff_true'])
  have c1 : gtI (s.length : Int) 1048576 = false := gtF (by omega)
  by_cases b3 : R.length ≤ 1048576
  rotate_left
  · have c3 : gtI (R.length : Int) 1048576 = true := gtT (by omega)
    exact Is.of e6 (Evt.all fun n => by simp only [F6, nth_0, nth_1, toStr_str, toList_list, h1, h3, c1, iff_false', c3, iff_true'])
  have c3 : gtI (R.length : Int) 1048576 = false := gtF (by omega)
  by_cases b2 : nm.length ≤ 1048576
  rotate_left
  · have c2 : gtI (nm.length : Int) 1048576 = true := gtT (by omega)
    exact Is.of e6 (Evt.all fun n => by simp only [F6, nth_0, nth_1, nth_2, toStr_str, toList_list, h1, h2, h3, c1, c3, iff_false', c2, iff_true'])
  have c2 : gtI (nm.length : Int) 1048576 = false := gtF (by omega)
  have hqw : (ints R).wt = R.length := by simp [wts_zero (l := R.map PV.int) (by intro q hq; obtain ⟨w, _, rfl⟩ := List.mem_map.1 hq; simp)]
  have htq := to_15 hq (by rw [hqw]; exact b3)
  have heq := eq_18 hq
  obtain ⟨rI, rS⟩ := renamedIS (l := s) (nm := nm) (R := R) (by omega) b3
  have hne : cmpS BinOp.neq (sB (renB s nm R)) (sB (renB s nm R)) = false := by rw [cmpN]; simp
  have tf : (!true) = false := rfl
  refine Is.of e6 ((Evt.and (htq.and heq) (rI.and rS)).mp fun n q => ?_)
  obtain ⟨⟨q1, q2⟩, q3, q4⟩ := q
  simp only [F6, nth_0, nth_1, nth_2, toStr_str, toList_list, h1, h2, h3, c1, c2, c3, iff_false', q1, q2, q3, q4, Option.bind_some, toBool_bool, hne, tf]
theorem strOf {q : PV} (h : WfT Tryd.prog 9 q) : ∃ l, q = .str (sB l) := by
  obtain ⟨s, rfl, _⟩ := wf_str (by kernel_rfl) h
  exact ⟨s.data.toList, by rw [sB_data]⟩
theorem ints_of : ∀ {l : List PV}, (∀ q, q ∈ l → ∃ x : Int, q = .int x) → ∃ W : List Int, l = W.map PV.int
  | [], _ => ⟨[], rfl⟩
  | q :: l, h => by
    obtain ⟨x, rfl⟩ := h q (by simp)
    obtain ⟨W, rfl⟩ := ints_of (l := l) fun q hq => h q (by simp [hq])
    exact ⟨x :: W, rfl⟩
theorem pure_law (ps : List PV) (hl : ps.length = 3) (hwf : ∀ (j : Nat) t p, [9, 33, 9][j]? = some t → ps[j]? = some p → WfT Tryd.prog t p) : ∃ n, ev Tryd.prog sg n 6 ps = some [.bool true] := by
  obtain ⟨p, q, r, rfl⟩ : ∃ p q r, ps = [p, q, r] := by
    match ps, hl with
    | [a, b, c], _ => exact ⟨a, b, c, rfl⟩
  obtain ⟨s, rfl⟩ := strOf (hwf 0 9 p rfl rfl)
  obtain ⟨nm, rfl⟩ := strOf (hwf 2 9 r rfl rfl)
  have hq := hwf 1 33 q rfl rfl
  obtain ⟨l, rfl, hll, he⟩ := wf_slice (e := 3) (by kernel_rfl) hq
  obtain ⟨R, rfl⟩ := ints_of fun q hq => by
    obtain ⟨x, e, _⟩ := wf_int (k := .i64) (by kernel_rfl) (he q hq)
    exact ⟨x, e⟩
  exact (law s nm R hq).get
end Go.Proofs.YthmhgnnaihkjaaaDoor.GFnExactRenamed
