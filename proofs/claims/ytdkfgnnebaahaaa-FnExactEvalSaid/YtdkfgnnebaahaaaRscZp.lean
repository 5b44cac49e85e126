/- Sizes of trees, and loops through lists: plain lemmas for the laws' own helpers. No conditions. -/
import Derived.Test.YtdkfgnnebaahaaaRscZo
namespace Go.Rsc
open Go.RowKit
set_option linter.unusedVariables false
set_option linter.unusedSimpArgs false

mutual
/-- How many elements and bytes a tree has. -/
def PV.wt : PV → Nat
  | .list l => l.length + PV.wts l
  | .agg l => PV.wts l
  | .str s => s.size
  | _ => 0
def PV.wts : List PV → Nat
  | [] => 0
  | p :: l => p.wt + PV.wts l
end
mutual
/-- How many leaves a tree has. -/
def PV.cn : PV → Nat
  | .list l => PV.cns l
  | .agg l => PV.cns l
  | .unit => 0
  | _ => 1
def PV.cns : List PV → Nat
  | [] => 0
  | p :: l => p.cn + PV.cns l
end
@[simp] theorem wt_list (l : List PV) : (PV.list l).wt = l.length + PV.wts l := by simp [PV.wt]
@[simp] theorem wt_agg (l : List PV) : (PV.agg l).wt = PV.wts l := by simp [PV.wt]
@[simp] theorem wt_int (n : Int) : (PV.int n).wt = 0 := by simp [PV.wt]
@[simp] theorem wt_bool (n : Bool) : (PV.bool n).wt = 0 := by simp [PV.wt]
@[simp] theorem wt_str (s : ByteArray) : (PV.str s).wt = s.size := by simp [PV.wt]
@[simp] theorem wts_nil : PV.wts [] = 0 := by simp [PV.wts]
@[simp] theorem wts_cons (p : PV) (l : List PV) : PV.wts (p :: l) = p.wt + PV.wts l := by simp [PV.wts]
@[simp] theorem cn_list (l : List PV) : (PV.list l).cn = PV.cns l := by simp [PV.cn]
@[simp] theorem cn_agg (l : List PV) : (PV.agg l).cn = PV.cns l := by simp [PV.cn]
@[simp] theorem cn_int (n : Int) : (PV.int n).cn = 1 := by simp [PV.cn]
@[simp] theorem cn_bool (n : Bool) : (PV.bool n).cn = 1 := by simp [PV.cn]
@[simp] theorem cn_str (s : ByteArray) : (PV.str s).cn = 1 := by simp [PV.cn]
@[simp] theorem cns_nil : PV.cns [] = 0 := by simp [PV.cns]
@[simp] theorem cns_cons (p : PV) (l : List PV) : PV.cns (p :: l) = p.cn + PV.cns l := by simp [PV.cns]
theorem wts_append (a b : List PV) : PV.wts (a ++ b) = PV.wts a + PV.wts b := by
  induction a with
  | nil => simp
  | cons x a ih => simp [ih, Nat.add_assoc]
theorem cns_append (a b : List PV) : PV.cns (a ++ b) = PV.cns a + PV.cns b := by
  induction a with
  | nil => simp
  | cons x a ih => simp [ih, Nat.add_assoc]
theorem wts_zero {l : List PV} (h : ∀ q, q ∈ l → q.wt = 0) : PV.wts l = 0 := by
  induction l with
  | nil => simp
  | cons x l ih => rw [wts_cons, h x (by simp), ih fun q hq => h q (by simp [hq])]
theorem wt_mem {l : List PV} {p : PV} (h : p ∈ l) : p.wt ≤ PV.wts l := by
  induction l with
  | nil => cases h
  | cons x l ih =>
    rcases List.mem_cons.1 h with e | e
    · subst e; simp
    · have := ih e; simp; omega

section
variable {P : Program} {t e : TypeId} {p : PV}
theorem wf_slice (hu : P.underlying t = some (.slice e)) (h : WfT P t p) : ∃ l, p = .list l ∧ l.length ≤ maxLen ∧ ∀ q, q ∈ l → WfT P e q := by
  cases h with
  | slice h1 h2 h3 => rw [hu] at h1; cases h1; exact ⟨_, rfl, h2, h3⟩
  | int h1 _ => rw [hu] at h1; cases h1
  | bool h1 => rw [hu] at h1; cases h1
  | str h1 _ => rw [hu] at h1; cases h1
  | struct h1 _ _ => rw [hu] at h1; cases h1
theorem wf_struct {fs : Array Field} (hu : P.underlying t = some (.struct fs)) (h : WfT P t p) : ∃ l, p = .agg l ∧ l.length = fs.size ∧ ∀ (i : Nat) (f : Field) (q : PV), fs[i]? = some f → l[i]? = some q → WfT P f.type q := by
  cases h with
  | struct h1 h2 h3 => rw [hu] at h1; cases h1; exact ⟨_, rfl, h2, h3⟩
  | int h1 _ => rw [hu] at h1; cases h1
  | bool h1 => rw [hu] at h1; cases h1
  | str h1 _ => rw [hu] at h1; cases h1
  | slice h1 _ _ => rw [hu] at h1; cases h1
theorem wf_int {k : IntKind} (hu : P.underlying t = some (.int k)) (h : WfT P t p) : ∃ n, p = .int n ∧ (Lit.int k n).wf = true := by
  cases h with
  | int h1 h2 => rw [hu] at h1; cases h1; exact ⟨_, rfl, h2⟩
  | struct h1 _ _ => rw [hu] at h1; cases h1
  | bool h1 => rw [hu] at h1; cases h1
  | str h1 _ => rw [hu] at h1; cases h1
  | slice h1 _ _ => rw [hu] at h1; cases h1
theorem wf_bool (hu : P.underlying t = some .bool) (h : WfT P t p) : ∃ n, p = .bool n := by
  cases h with
  | bool h1 => exact ⟨_, rfl⟩
  | struct h1 _ _ => rw [hu] at h1; cases h1
  | int h1 _ => rw [hu] at h1; cases h1
  | str h1 _ => rw [hu] at h1; cases h1
  | slice h1 _ _ => rw [hu] at h1; cases h1
theorem wf_str (hu : P.underlying t = some .string) (h : WfT P t p) : ∃ s, p = .str s ∧ s.size ≤ maxLen := by
  cases h with
  | str h1 h2 => exact ⟨_, rfl, h2⟩
  | struct h1 _ _ => rw [hu] at h1; cases h1
  | int h1 _ => rw [hu] at h1; cases h1
  | bool h1 => rw [hu] at h1; cases h1
  | slice h1 _ _ => rw [hu] at h1; cases h1
end
theorem wf64 {n : Int} (h : (Lit.int .i64 n).wf = true) : -9223372036854775808 ≤ n ∧ n < 9223372036854775808 := by
  simp [Lit.wf, IntKind.min, IntKind.max, IntKind.wrap, IntKind.bits, IntKind.signed] at h
  omega
theorem wf8 {n : Int} (h : (Lit.int .u8 n).wf = true) : 0 ≤ n ∧ n < 256 := by
  simp [Lit.wf, IntKind.min, IntKind.max, IntKind.wrap, IntKind.bits, IntKind.signed] at h
  omega

theorem cns_le {S : Nat} : ∀ {l : List PV}, (∀ q, q ∈ l → q.cn ≤ S + S * q.wt) → PV.cns l ≤ S * (l.length + PV.wts l)
  | [], _ => by simp
  | x :: l, h => by
    have h0 := h x (by simp)
    have h1 := cns_le (l := l) fun q hq => h q (by simp [hq])
    simp only [cns_cons, wts_cons, List.length_cons, Nat.mul_add, Nat.mul_one] at h1 ⊢
    omega
theorem wf_mk64 {n : Int} (h1 : -9223372036854775808 ≤ n) (h2 : n < 9223372036854775808) : (Lit.int .i64 n).wf = true := by
  simp [Lit.wf, IntKind.min, IntKind.max, IntKind.wrap, IntKind.bits, IntKind.signed]
  omega
theorem wf_mk8 {n : Int} (h1 : 0 ≤ n) (h2 : n < 256) : (Lit.int .u8 n).wf = true := by
  simp [Lit.wf, IntKind.min, IntKind.max, IntKind.wrap, IntKind.bits, IntKind.signed]
  omega
theorem Evt.mp5 {p q r s t u : Nat → Prop} (a : Evt p) (b : Evt q) (c : Evt r) (d : Evt s) (e : Evt t) (f : ∀ n, p n → q n → r n → s n → t n → u n) : Evt u := (a.and (b.and (c.and (d.and e)))).mp fun n x => f n x.1 x.2.1 x.2.2.1 x.2.2.2.1 x.2.2.2.2
/-- A loop through a list, one element after the other, ended by its index. -/
theorem loop_list {body : Nat → List PV → Option (Ex × List PV)} {pay : List PV → List PV → List PV} {e : Ex} {res : List PV} (he : e ≠ .n) : ∀ (todo done : List PV),
    (∀ (d : List PV) (x : PV) (r : List PV), done ++ todo = d ++ x :: r → Evt fun n => body n (pay d (x :: r)) = some (.n, pay (d ++ [x]) r)) → (Evt fun n => body n (pay (done ++ todo) []) = some (e, res)) →
    Evt fun n => ∀ m, todo.length + 1 ≤ m → loopEv (body n) m (pay done todo) = some (e, res)
  | [], done, _, hend => by
    rw [List.append_nil] at hend
    refine hend.mp fun n h m hm => ?_
    obtain ⟨m, rfl⟩ : ∃ m', m = m' + 1 := ⟨m - 1, by omega⟩
    simp only [loopEv, h, thenN]
    cases e <;> first | exact absurd rfl he | rfl
  | x :: todo, done, hstep, hend => by
    have ih := loop_list he todo (done ++ [x]) (fun d y r hd => hstep d y r (by rw [← hd]; simp)) (by simpa using hend)
    refine (hstep done x todo rfl).mp2 ih fun n h1 h2 m hm => ?_
    obtain ⟨m, rfl⟩ : ∃ m', m = m' + 1 := ⟨m - 1, by omega⟩
    simp only [loopEv, h1, thenN, Option.bind_some]
    exact h2 m (by simp at hm ⊢; omega)

/-! ### Arithmetic of numbers that are not negative -/
theorem arith_and (x : Nat) (j : Nat) (hx : x < 9223372036854775808) (hj : 2 ^ j ≤ 9223372036854775808) (m : Int) (hm : m = ((2 ^ j - 1 : Nat) : Int)) : arith .and .i64 (x : Int) m = ((x % 2 ^ j : Nat) : Int) := by
  subst hm
  have h0 : 0 < 2 ^ j := Nat.pow_pos (by decide)
  have e1 : (BitVec.ofInt 64 (x : Int)).toNat = x := by rw [BitVec.toNat_ofInt]; omega
  have e2 : (BitVec.ofInt 64 ((2 ^ j - 1 : Nat) : Int)).toNat = 2 ^ j - 1 := by rw [BitVec.toNat_ofInt]; omega
  have h1 : x % 2 ^ j ≤ x := Nat.mod_le _ _
  show IntKind.i64.wrap ((BitVec.ofInt 64 (x : Int) &&& BitVec.ofInt 64 ((2 ^ j - 1 : Nat) : Int)).toNat : Int) = _
  rw [BitVec.toNat_and, e1, e2, Nat.and_two_pow_sub_one_eq_mod x j, wrap64 (by omega) (by omega)]
theorem arith_shr (x : Nat) (j : Nat) (hj : j ≤ 64) (m : Int) (hm : m = (j : Int)) : arith .shr .i64 (x : Int) m = ((x / 2 ^ j : Nat) : Int) := by
  subst hm
  show (x : Int).fdiv (2 ^ (min ((j : Int).toNat) 64)) = _
  rw [Int.toNat_natCast, Nat.min_eq_left hj, Int.fdiv_eq_ediv_of_nonneg _ (by exact Int.le_of_lt (Int.pow_pos (by decide)))]
  push_cast
  rfl
theorem arith_rem (x y : Nat) : arith .rem .i64 (x : Int) (y : Int) = ((x % y : Nat) : Int) := by
  show (x : Int).tmod y = _
  rw [Int.tmod_eq_emod_of_nonneg (by omega)]
  rfl
theorem arith_quo (x y : Nat) (hx : x < 9223372036854775808) : arith .quo .i64 (x : Int) (y : Int) = ((x / y : Nat) : Int) := by
  show IntKind.i64.wrap ((x : Int).tdiv y) = _
  have h1 : x / y ≤ x := Nat.div_le_self _ _
  rw [Int.tdiv_eq_ediv_of_nonneg (by omega)]
  show IntKind.i64.wrap ((x / y : Nat) : Int) = _
  generalize x / y = q at h1
  exact wrap64 (by omega) (by omega)
/-- A loop that stops where a check fails. -/
theorem all_loop {body : Nat → List PV → Option (Ex × List PV)} {pay : Nat → List PV} {c : Nat → Bool} {e1 e2 : Ex} {r1 r2 : List PV} (k : Nat) (h1 : e1 ≠ .n) (h2 : e2 ≠ .n) (step : ∀ i, i < k → c i = true → Evt fun n => body n (pay i) = some (.n, pay (i + 1)))
    (stop : ∀ i, i < k → c i = false → Evt fun n => body n (pay i) = some (e2, r2)) (fin : Evt fun n => body n (pay k) = some (e1, r1)) :
    Evt fun n => loopEv (body n) n (pay 0) = if (List.range k).all c then some (e1, r1) else some (e2, r2) := by
  have key : ∀ (j i : Nat), i + j = k → Evt fun n => ∀ m, j + 1 ≤ m → loopEv (body n) m (pay i) = if (List.range' i j).all c then some (e1, r1) else some (e2, r2) := by
    intro j
    induction j with
    | zero =>
      intro i hi
      have e : i = k := by omega
      subst e
      refine fin.mp fun n h m hm => ?_
      obtain ⟨m, rfl⟩ : ∃ m', m = m' + 1 := ⟨m - 1, by omega⟩
      simp only [loopEv, h, thenN]
      cases e1 <;> first | exact absurd rfl h1 | rfl
    | succ j ih =>
      intro i hi
      cases hc : c i with
      | true =>
        refine (step i (by omega) hc).mp2 (ih (i + 1) (by omega)) fun n h3 h4 m hm => ?_
        obtain ⟨m, rfl⟩ : ∃ m', m = m' + 1 := ⟨m - 1, by omega⟩
        simp only [loopEv, h3, thenN, Option.bind_some]
        rw [h4 m (by omega), List.range'_succ, List.all_cons, hc, Bool.true_and]
      | false =>
        refine (stop i (by omega) hc).mp fun n h3 m hm => ?_
        obtain ⟨m, rfl⟩ : ∃ m', m = m' + 1 := ⟨m - 1, by omega⟩
        simp only [loopEv, h3, thenN, Option.bind_some]
        rw [List.range'_succ, List.all_cons, hc, Bool.false_and]
        cases e2 <;> first | exact absurd rfl h2 | rfl
  refine ((key k 0 (by omega)).and (Evt.ge (k + 1))).mp fun n h => ?_
  rw [h.1 n h.2, List.range_eq_range']

theorem flat_len {f : PV → List PV} {c : Nat} : ∀ {l : List PV}, (∀ q, q ∈ l → (f q).length ≤ c) → (l.flatMap f).length ≤ c * l.length
  | [], _ => by simp
  | x :: l, h => by
    have := flat_len (l := l) fun q hq => h q (by simp [hq])
    have h0 := h x (by simp)
    simp only [List.flatMap_cons, List.length_append, List.length_cons, Nat.mul_succ]
    omega
theorem flat_wt {f : PV → List PV} {a b : Nat} : ∀ {l : List PV}, (∀ q, q ∈ l → (f q).length ≤ a + b * q.wt) → (l.flatMap f).length ≤ a * l.length + b * PV.wts l
  | [], _ => by simp
  | x :: l, h => by
    have := flat_wt (l := l) fun q hq => h q (by simp [hq])
    have h0 := h x (by simp)
    simp only [List.flatMap_cons, List.length_append, List.length_cons, Nat.mul_succ, wts_cons, Nat.mul_add]
    omega
theorem wts_take (l : List PV) (i : Nat) : PV.wts (l.take i) ≤ PV.wts l := by
  have := wts_append (l.take i) (l.drop i)
  rw [List.take_append_drop] at this
  omega
theorem flat_take {f : PV → List PV} {l : List PV} {i : Nat} (h : i < l.length) : (l.take (i + 1)).flatMap f = (l.take i).flatMap f ++ f (nth l i) := by
  rw [take_nth h, List.flatMap_append]; simp
/-- What is left of a bound. -/
def szR (x : Int) (w : Nat) : Int := if (w : Int) ≤ x then x - w else -1
theorem szR_ge {x : Int} {w : Nat} (h : (w : Int) ≤ x) : szR x w = x - w := by simp [szR, h]
theorem szR_lt {x : Int} {w : Nat} (h : x < (w : Int)) : szR x w = -1 := by
  have : ¬ (w : Int) ≤ x := by omega
  simp [szR, this]
theorem szR_neg {x : Int} {w : Nat} (hx : 0 ≤ x) : szR x w < 0 ↔ x < w := by
  unfold szR; split <;> omega

/-- The loop of a size. -/
theorem sz_loop {body : Nat → List PV → Option (Ex × List PV)} {pay : Nat → Int → List PV} {l : List PV} {B : Int} (step : ∀ i, i < l.length → ∀ x : Int, 0 ≤ x → x ≤ B → Evt fun n => body n (pay i x) = if szR x (nth l i).wt < 0 then some (.r, [.int (-1)]) else some (.n, pay (i + 1) (szR x (nth l i).wt)))
    (fin : ∀ x : Int, 0 ≤ x → Evt fun n => body n (pay l.length x) = some (.x 0, [.int x])) : ∀ x : Int, 0 ≤ x → x ≤ B →
    Evt fun n => loopEv (body n) n (pay 0 x) = if szR x (PV.wts l) < 0 then some (.r, [.int (-1)]) else some (.x 0, [.int (szR x (PV.wts l))]) := by
  have key : ∀ (j : Nat) (i : Nat), i + j = l.length → ∀ x : Int, 0 ≤ x → x ≤ B → Evt fun n => ∀ m, j + 1 ≤ m → loopEv (body n) m (pay i x) = if szR x (PV.wts (l.drop i)) < 0 then some (.r, [.int (-1)]) else some (.x 0, [.int (szR x (PV.wts (l.drop i)))]) := by
    intro j
    induction j with
    | zero =>
      intro i hi x h1 h2
      have e : i = l.length := by omega
      subst e
      refine (fin x h1).mp fun n h m hm => ?_
      obtain ⟨m, rfl⟩ : ∃ m', m = m' + 1 := ⟨m - 1, by omega⟩
      have e0 : szR x 0 = x := by simp [szR, h1]
      have e1 : ¬ x < 0 := by omega
      simp [loopEv, h, thenN, e0, e1]
    | succ j ih =>
      intro i hi x h1 h2
      have hlt : i < l.length := by omega
      have hdrop : l.drop i = nth l i :: l.drop (i + 1) := by
        rw [nth, List.getD_eq_getElem?_getD, List.getElem?_eq_getElem hlt]
        exact List.drop_eq_getElem_cons hlt
      by_cases hs : szR x (nth l i).wt < 0
      · refine (step i hlt x h1 h2).mp fun n h m hm => ?_
        obtain ⟨m, rfl⟩ : ∃ m', m = m' + 1 := ⟨m - 1, by omega⟩
        rw [if_pos hs] at h
        have h3 := (szR_neg h1).1 hs
        have h4 : szR x (PV.wts (l.drop i)) < 0 := (szR_neg h1).2 (by rw [hdrop, wts_cons]; omega)
        simp [loopEv, h, thenN, h4]
      · have h3 : (nth l i).wt ≤ x := by
          have := mt (szR_neg h1).2 hs; omega
        have e1 : szR x (nth l i).wt = x - (nth l i).wt := szR_ge h3
        refine (step i hlt x h1 h2).mp2 (ih (i + 1) (by omega) (x - (nth l i).wt) (by omega) (by omega)) fun n h h5 m hm => ?_
        obtain ⟨m, rfl⟩ : ∃ m', m = m' + 1 := ⟨m - 1, by omega⟩
        rw [if_neg hs, e1] at h
        have e2 : szR (x - (nth l i).wt) (PV.wts (l.drop (i + 1))) = szR x (PV.wts (l.drop i)) := by
          rw [hdrop, wts_cons]; unfold szR
          push_cast
          by_cases hh : ((nth l i).wt : Int) + PV.wts (l.drop (i + 1)) ≤ x
          · rw [if_pos hh, if_pos (by omega)]; omega
          · rw [if_neg hh, if_neg (by omega)]
        simp only [loopEv, h, thenN, Option.bind_some]
        rw [h5 m (by omega), e2]
  intro x h1 h2
  refine ((key l.length 0 (by omega) x h1 h2).and (Evt.ge (l.length + 1))).mp fun n h => ?_
  have := h.1 n h.2
  simpa using this

/-- Each element is turned from its number on. -/
def Goods (good : Int → PV → PV → Prop) : Int → List PV → List PV → Prop
  | _, [], [] => True
  | k, p :: l, q :: m => good k p q ∧ Goods good (k + p.cn) l m
  | _, _, _ => False
theorem Goods.len {good : Int → PV → PV → Prop} : ∀ {k : Int} {l m : List PV}, Goods good k l m → m.length = l.length
  | _, [], [], _ => rfl
  | _, _ :: _, _ :: _, h => by simp [Goods.len h.2]
  | _, [], _ :: _, h => h.elim
  | _, _ :: _, [], h => h.elim
theorem Goods.imp {good good' : Int → PV → PV → Prop} : ∀ {k : Int} {l m : List PV}, Goods good k l m → (∀ k x y, x ∈ l → good k x y → good' k x y) → Goods good' k l m
  | _, [], [], _, _ => trivial
  | _, x :: l, y :: m, h, f => ⟨f _ _ _ (by simp) h.1, Goods.imp h.2 fun k x' y' hx => f k x' y' (by simp [hx])⟩
  | _, [], _ :: _, h, _ => h.elim
  | _, _ :: _, [], h, _ => h.elim
theorem Goods.mem {good : Int → PV → PV → Prop} {k : Int} {l m : List PV} (h : Goods good k l m) : Goods (fun k x y => x ∈ l ∧ good k x y) k l m := h.imp fun k x y hx hg => ⟨hx, hg⟩
theorem mark_loop {body : Nat → List PV → Option (Ex × List PV)} {pay : Nat → Int → List PV → List PV} {res : Int → List PV → List PV} {good : Int → PV → PV → Prop} {B : Int} {l : List PV}
    (step : ∀ (d r : List PV) (x : PV) (k : Int), x ∈ l → (d ++ x :: r).length = l.length → 0 ≤ k → k + x.cn ≤ B → ∃ y, good k x y ∧ Evt fun n => body n (pay d.length k (d ++ x :: r)) = some (.n, pay (d.length + 1) (k + x.cn) (d ++ y :: r)))
    (fin : ∀ (k : Int) (m : List PV), m.length = l.length → Evt fun n => body n (pay l.length k m) = some (.x 0, res k m)) :
    ∀ k : Int, 0 ≤ k → k + PV.cns l ≤ B → ∃ m, Goods good k l m ∧ Evt fun n => loopEv (body n) n (pay 0 k l) = some (.x 0, res (k + PV.cns l) m) := by
  have key : ∀ (todo d : List PV) (k : Int), (∀ x, x ∈ todo → x ∈ l) → (d ++ todo).length = l.length → 0 ≤ k → k + PV.cns todo ≤ B →
      ∃ m, Goods good k todo m ∧ Evt fun n => ∀ j, todo.length + 1 ≤ j → loopEv (body n) j (pay d.length k (d ++ todo)) = some (.x 0, res (k + PV.cns todo) (d ++ m)) := by
    intro todo
    induction todo with
    | nil =>
      intro d k _ hl h1 h2
      refine ⟨[], trivial, (fin k (d ++ []) hl).mp fun n h j hj => ?_⟩
      obtain ⟨j, rfl⟩ : ∃ j', j = j' + 1 := ⟨j - 1, by omega⟩
      have e : d.length = l.length := by simpa using hl
      simp only [List.append_nil] at h ⊢
      rw [e]
      simp [loopEv, h, thenN]
    | cons x todo ih =>
      intro d k hm hl h1 h2
      rw [cns_cons] at h2
      push_cast at h2
      obtain ⟨y, g1, g2⟩ := step d todo x k (hm x (by simp)) hl h1 (by omega)
      obtain ⟨m, g3, g4⟩ := ih (d ++ [y]) (k + x.cn) (fun z hz => hm z (by simp [hz])) (by simp at hl ⊢; omega) (by omega) (by omega)
      refine ⟨y :: m, ⟨g1, g3⟩, g2.mp2 g4 fun n h3 h4 j hj => ?_⟩
      obtain ⟨j, rfl⟩ : ∃ j', j = j' + 1 := ⟨j - 1, by omega⟩
      have h5 := h4 j (by simp at hj; omega)
      simp only [List.append_assoc, List.singleton_append, List.length_append, List.length_singleton] at h5
      simp only [loopEv, h3, thenN, Option.bind_some]
      rw [h5, cns_cons]
      push_cast
      rw [Int.add_assoc]
  intro k h1 h2
  obtain ⟨m, g1, g2⟩ := key l [] k (fun x hx => hx) rfl h1 h2
  refine ⟨m, g1, (g2.and (Evt.ge (l.length + 1))).mp fun n h => ?_⟩
  simpa using h.1 n h.2
theorem held_loop {body : Nat → List PV → Option (Ex × List PV)} {pay : Nat → Int → List PV} {good : Int → PV → PV → Prop} {B : Int} {l m : List PV} (hlen : m.length = l.length)
    (step : ∀ (i : Nat) (k : Int) (x : PV), i < m.length → good k x (nth m i) → 0 ≤ k → k + x.cn ≤ B → Evt fun n => body n (pay i k) = some (.n, pay (i + 1) (k + x.cn)))
    (fin : ∀ k : Int, Evt fun n => body n (pay m.length k) = some (.x 0, [.int k])) : ∀ k : Int, 0 ≤ k → k + PV.cns l ≤ B → Goods good k l m → Evt fun n => loopEv (body n) n (pay 0 k) = some (.x 0, [.int (k + PV.cns l)]) := by
  have key : ∀ (a b : List PV) (i : Nat) (k : Int), i + a.length = m.length → m.drop i = b → b.length = a.length → 0 ≤ k → k + PV.cns a ≤ B → Goods good k a b →
      Evt fun n => ∀ j, a.length + 1 ≤ j → loopEv (body n) j (pay i k) = some (.x 0, [.int (k + PV.cns a)]) := by
    intro a
    induction a with
    | nil =>
      intro b i k hi hb hl h1 h2 hg
      have e : i = m.length := by simpa using hi
      subst e
      refine (fin k).mp fun n h j hj => ?_
      obtain ⟨j, rfl⟩ : ∃ j', j = j' + 1 := ⟨j - 1, by omega⟩
      simp [loopEv, h, thenN]
    | cons x a ih =>
      intro b i k hi hb hl h1 h2 hg
      cases b with
      | nil => simp at hl
      | cons y b =>
        obtain ⟨g1, g2⟩ := hg
        rw [cns_cons] at h2
        push_cast at h2
        have hlt : i < m.length := by
          refine Nat.lt_of_not_le fun h => ?_
          rw [List.drop_eq_nil_iff.2 h] at hb; cases hb
        have hdrop := List.drop_eq_getElem_cons hlt
        rw [hb] at hdrop
        simp only [List.cons.injEq] at hdrop
        have hy : nth m i = y := by rw [nth, List.getD_eq_getElem?_getD, List.getElem?_eq_getElem hlt]; exact hdrop.1.symm
        refine (step i k x hlt (by rw [hy]; exact g1) h1 (by omega)).mp2 (ih b (i + 1) (k + x.cn) (by simp at hi ⊢; omega) hdrop.2.symm (by simpa using hl) (by omega) (by omega) g2) fun n h3 h4 j hj => ?_
        obtain ⟨j, rfl⟩ : ∃ j', j = j' + 1 := ⟨j - 1, by omega⟩
        simp only [loopEv, h3, thenN, Option.bind_some]
        rw [h4 j (by simp at hj; omega), cns_cons]
        push_cast
        rw [Int.add_assoc]
  intro k h1 h2 hg
  refine ((key l m 0 k (by omega) (by simp) hlen h1 h2 hg).and (Evt.ge (l.length + 1))).mp fun n h => ?_
  exact h.1 n h.2
end Go.Rsc
