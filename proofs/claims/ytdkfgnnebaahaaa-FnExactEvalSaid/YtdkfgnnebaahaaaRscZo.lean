/- Pure programs: what they come to from some bound on; plain lemmas. No conditions. -/
import Derived.Test.YtdkfgnnebaahaaaRscZn
namespace Go.Rsc
open Go.RowKit
set_option linter.unusedVariables false
set_option linter.unusedSimpArgs false

def Evt (p : Nat → Prop) : Prop := ∃ m, ∀ n, m ≤ n → p n
section
variable {p q r s t u : Nat → Prop}
theorem Evt.all (h : ∀ n, p n) : Evt p := ⟨0, fun n _ => h n⟩
theorem Evt.mp (h : Evt p) (f : ∀ n, p n → q n) : Evt q := let ⟨m, hm⟩ := h; ⟨m, fun n hn => f n (hm n hn)⟩
theorem Evt.and (h : Evt p) (k : Evt q) : Evt fun n => p n ∧ q n := let ⟨m, hm⟩ := h; let ⟨m', hm'⟩ := k; ⟨max m m', fun n hn => ⟨hm n (by omega), hm' n (by omega)⟩⟩
theorem Evt.mp2 (h : Evt p) (k : Evt q) (f : ∀ n, p n → q n → r n) : Evt r := (h.and k).mp fun n x => f n x.1 x.2
theorem Evt.mp3 (h : Evt p) (k : Evt q) (l : Evt r) (f : ∀ n, p n → q n → r n → s n) : Evt s := (h.and (k.and l)).mp fun n x => f n x.1 x.2.1 x.2.2
theorem Evt.mp4 (h : Evt p) (k : Evt q) (l : Evt r) (m : Evt s) (f : ∀ n, p n → q n → r n → s n → t n) : Evt t := (h.and (k.and (l.and m))).mp fun n x => f n x.1 x.2.1 x.2.2.1 x.2.2.2
theorem Evt.ge (k : Nat) : Evt fun n => k ≤ n := ⟨k, fun n h => h⟩
theorem Evt.lt {p : Nat → Nat → Prop} : ∀ k, (∀ i, i < k → Evt (p i)) → Evt fun n => ∀ i, i < k → p i n
  | 0, _ => Evt.all fun n i hi => by omega
  | k + 1, h => (Evt.lt k fun i hi => h i (by omega)).mp2 (h k (by omega)) fun n h1 h2 i hi => by
    by_cases e : i = k
    · subst e; exact h2
    · exact h1 i (by omega)
theorem Evt.mem {α : Type} {p : α → Nat → Prop} : ∀ l : List α, (∀ x, x ∈ l → Evt (p x)) → Evt fun n => ∀ x, x ∈ l → p x n
  | [], _ => Evt.all fun n x hx => by cases hx
  | y :: l, h => (h y (by simp)).mp2 (Evt.mem l fun x hx => h x (by simp [hx])) fun n h1 h2 x hx => by
    rcases List.mem_cons.1 hx with e | e
    · subst e; exact h1
    · exact h2 x e
theorem Evt.get (h : Evt p) : ∃ n, p n := let ⟨m, hm⟩ := h; ⟨m, hm m (Nat.le_refl m)⟩
end

def Is (P : Program) (sg : FuncId → Option Sig) (f : FuncId) (a r : List PV) : Prop := Evt fun n => ev P sg n f a = some r
section
variable {P : Program} {sg : FuncId → Option Sig} {f : FuncId} {a r : List PV}
theorem Is.of {g : Interp → Nat → List PV → Option (List PV)} (h : ∀ I n a, (compF P sg f).map (fun d => d.ev I n a) = some (g I n a)) (hg : Evt fun n => g (ev P sg n) n a = some r) : Is P sg f a r := by
  obtain ⟨m, hm⟩ := hg
  refine ⟨m + 1, fun n hn => ?_⟩
  obtain ⟨k, rfl⟩ : ∃ k, n = k + 1 := ⟨n - 1, by omega⟩
  rw [ev_succ h]
  exact hm k (by omega)
theorem Is.get (h : Is P sg f a r) : ∃ n, ev P sg n f a = some r := Evt.get h
end

/-- A loop whose payloads are known. -/
theorem loop_run {body : Nat → List PV → Option (Ex × List PV)} (inv : Nat → List PV) (k : Nat) {e : Ex} {res : List PV} (hstep : ∀ i, i < k → Evt fun n => body n (inv i) = some (.n, inv (i + 1))) (hend : Evt fun n => body n (inv k) = some (e, res)) (he : e ≠ .n) :
    Evt fun n => loopEv (body n) n (inv 0) = some (e, res) := by
  refine ((Evt.lt k hstep).and (hend.and (Evt.ge (k + 1)))).mp fun n ⟨h1, h2, h3⟩ => ?_
  have key : ∀ j, j ≤ k → ∀ m, j + 1 ≤ m → loopEv (body n) m (inv (k - j)) = some (e, res) := by
    intro j
    induction j with
    | zero =>
      intro _ m hm
      obtain ⟨m, rfl⟩ : ∃ m', m = m' + 1 := ⟨m - 1, by omega⟩
      simp only [loopEv, Nat.sub_zero, h2, thenN]
      cases e <;> first | exact absurd rfl he | rfl
    | succ j ih =>
      intro hj m hm
      obtain ⟨m, rfl⟩ : ∃ m', m = m' + 1 := ⟨m - 1, by omega⟩
      have h4 := h1 (k - (j + 1)) (by omega)
      rw [show k - (j + 1) + 1 = k - j by omega] at h4
      simp only [loopEv, h4, thenN, Option.bind_some]
      exact ih (by omega) m (by omega)
  have := key k (Nat.le_refl k) n h3
  rwa [Nat.sub_self] at this

/-! ### Simplification -/
section
variable {β : Type}
@[simp] theorem toInt_int (n : Int) : PV.toInt (.int n) = n := rfl
@[simp] theorem toBool_bool (b : Bool) : PV.toBool (.bool b) = b := rfl
@[simp] theorem toStr_str (s : ByteArray) : PV.toStr (.str s) = s := rfl
@[simp] theorem toAgg_agg (l : List PV) : PV.toAgg (.agg l) = l := rfl
@[simp] theorem toList_list (l : List PV) : PV.toList (.list l) = l := rfl
@[simp] theorem fld_agg (l : List PV) (i : Nat) : PV.fld (.agg l) i = nth l i := rfl
@[simp] theorem setFld_agg (l : List PV) (i : Nat) (q : PV) : PV.setFld (.agg l) i q = .agg (l.set i q) := rfl
@[simp] theorem isB_bool (c b : Bool) : PV.isB (.bool c) b = (c == b) := rfl
@[simp] theorem iff_true' (a b : Option β) : iff true a b = a := rfl
@[simp] theorem iff_false' (a b : Option β) : iff false a b = b := rfl
@[simp] theorem thenN_n (ps : List PV) (B : List PV → Option β) (E : Ex → List PV → Option β) : thenN (some (.n, ps)) B E = B ps := rfl
@[simp] theorem thenN_r (ps : List PV) (B : List PV → Option β) (E : Ex → List PV → Option β) : thenN (some (.r, ps)) B E = E .r ps := rfl
@[simp] theorem thenN_x (i : Nat) (ps : List PV) (B : List PV → Option β) (E : Ex → List PV → Option β) : thenN (some (.x i, ps)) B E = E (.x i) ps := rfl
@[simp] theorem thenE_some (e : Ex) (ps : List PV) (E : Ex → List PV → Option β) : thenE (some (e, ps)) E = E e ps := rfl
@[simp] theorem passE_eq (e : Ex) (ps : List PV) : passE e ps = some (e, ps) := rfl
@[simp] theorem passB_r (id : Nat) (ps : List PV) : passB id .r ps = some (.r, ps) := rfl
@[simp] theorem passB_n (id : Nat) (ps : List PV) : passB id .n ps = some (.n, ps) := rfl
theorem passB_x (id i : Nat) (ps : List PV) : passB id (.x i) ps = if Nat.beq i id then some (.n, ps) else some (.x i, ps) := rfl
@[simp] theorem passB_same (id : Nat) (ps : List PV) : passB id (.x id) ps = some (.n, ps) := by simp [passB]
@[simp] theorem retE_r (fin : List PV → List PV) (ps : List PV) : retE fin .r ps = some (fin ps) := rfl
theorem ltT {x y : Int} (h : x < y) : ltI x y = true := by simp [ltI, h]
theorem ltF {x y : Int} (h : y ≤ x) : ltI x y = false := by simp [ltI, h]
theorem leT {x y : Int} (h : x ≤ y) : leI x y = true := by simp [leI, h]
theorem leF {x y : Int} (h : y < x) : leI x y = false := by simp [leI, h]
theorem gtT {x y : Int} (h : y < x) : gtI x y = true := by simp [gtI, h]
theorem gtF {x y : Int} (h : x ≤ y) : gtI x y = false := by simp [gtI, h]
theorem geT {x y : Int} (h : y ≤ x) : geI x y = true := by simp [geI, h]
theorem geF {x y : Int} (h : x < y) : geI x y = false := by simp [geI, h]
theorem eqT {x y : Int} (h : x = y) : eqI x y = true := by simp [eqI, h]
theorem eqF {x y : Int} (h : x ≠ y) : eqI x y = false := by simp [eqI, h]
theorem neT {x y : Int} (h : x ≠ y) : neI x y = true := by simp [neI, h]
theorem neF {x y : Int} (h : x = y) : neI x y = false := by simp [neI, h]
theorem leNT {x y : Nat} (h : x ≤ y) : leN x y = true := by simp [leN, h]
theorem beqT (b : Bool) : (b == true) = b := by cases b <;> rfl
theorem beqF (b : Bool) : (b == false) = !b := by cases b <;> rfl
@[simp] theorem selB_true (a b : PV) : selB true a b = a := rfl
@[simp] theorem selB_false (a b : PV) : selB false a b = b := rfl
theorem iff_ite (c : Bool) (a b : Option β) : iff c a b = if c = true then a else b := rfl
end
@[simp] theorem nth_0 (x0 : PV) (l : List PV) : nth (x0 :: l) 0 = x0 := rfl
@[simp] theorem nth_1 (x0 x1 : PV) (l : List PV) : nth (x0 :: x1 :: l) 1 = x1 := rfl
@[simp] theorem nth_2 (x0 x1 x2 : PV) (l : List PV) : nth (x0 :: x1 :: x2 :: l) 2 = x2 := rfl
@[simp] theorem nth_3 (x0 x1 x2 x3 : PV) (l : List PV) : nth (x0 :: x1 :: x2 :: x3 :: l) 3 = x3 := rfl
@[simp] theorem nth_4 (x0 x1 x2 x3 x4 : PV) (l : List PV) : nth (x0 :: x1 :: x2 :: x3 :: x4 :: l) 4 = x4 := rfl
@[simp] theorem nth_5 (x0 x1 x2 x3 x4 x5 : PV) (l : List PV) : nth (x0 :: x1 :: x2 :: x3 :: x4 :: x5 :: l) 5 = x5 := rfl
@[simp] theorem nth_6 (x0 x1 x2 x3 x4 x5 x6 : PV) (l : List PV) : nth (x0 :: x1 :: x2 :: x3 :: x4 :: x5 :: x6 :: l) 6 = x6 := rfl
@[simp] theorem nth_7 (x0 x1 x2 x3 x4 x5 x6 x7 : PV) (l : List PV) : nth (x0 :: x1 :: x2 :: x3 :: x4 :: x5 :: x6 :: x7 :: l) 7 = x7 := rfl
@[simp] theorem nth_8 (x0 x1 x2 x3 x4 x5 x6 x7 x8 : PV) (l : List PV) : nth (x0 :: x1 :: x2 :: x3 :: x4 :: x5 :: x6 :: x7 :: x8 :: l) 8 = x8 := rfl
@[simp] theorem nth_9 (x0 x1 x2 x3 x4 x5 x6 x7 x8 x9 : PV) (l : List PV) : nth (x0 :: x1 :: x2 :: x3 :: x4 :: x5 :: x6 :: x7 :: x8 :: x9 :: l) 9 = x9 := rfl
@[simp] theorem nth_10 (x0 x1 x2 x3 x4 x5 x6 x7 x8 x9 x10 : PV) (l : List PV) : nth (x0 :: x1 :: x2 :: x3 :: x4 :: x5 :: x6 :: x7 :: x8 :: x9 :: x10 :: l) 10 = x10 := rfl
@[simp] theorem nth_11 (x0 x1 x2 x3 x4 x5 x6 x7 x8 x9 x10 x11 : PV) (l : List PV) : nth (x0 :: x1 :: x2 :: x3 :: x4 :: x5 :: x6 :: x7 :: x8 :: x9 :: x10 :: x11 :: l) 11 = x11 := rfl
@[simp] theorem nth_12 (x0 x1 x2 x3 x4 x5 x6 x7 x8 x9 x10 x11 x12 : PV) (l : List PV) : nth (x0 :: x1 :: x2 :: x3 :: x4 :: x5 :: x6 :: x7 :: x8 :: x9 :: x10 :: x11 :: x12 :: l) 12 = x12 := rfl
@[simp] theorem nth_13 (x0 x1 x2 x3 x4 x5 x6 x7 x8 x9 x10 x11 x12 x13 : PV) (l : List PV) : nth (x0 :: x1 :: x2 :: x3 :: x4 :: x5 :: x6 :: x7 :: x8 :: x9 :: x10 :: x11 :: x12 :: x13 :: l) 13 = x13 := rfl
@[simp] theorem nth_14 (x0 x1 x2 x3 x4 x5 x6 x7 x8 x9 x10 x11 x12 x13 x14 : PV) (l : List PV) : nth (x0 :: x1 :: x2 :: x3 :: x4 :: x5 :: x6 :: x7 :: x8 :: x9 :: x10 :: x11 :: x12 :: x13 :: x14 :: l) 14 = x14 := rfl
@[simp] theorem nth_15 (x0 x1 x2 x3 x4 x5 x6 x7 x8 x9 x10 x11 x12 x13 x14 x15 : PV) (l : List PV) : nth (x0 :: x1 :: x2 :: x3 :: x4 :: x5 :: x6 :: x7 :: x8 :: x9 :: x10 :: x11 :: x12 :: x13 :: x14 :: x15 :: l) 15 = x15 := rfl
@[simp] theorem nth_16 (x0 x1 x2 x3 x4 x5 x6 x7 x8 x9 x10 x11 x12 x13 x14 x15 x16 : PV) (l : List PV) : nth (x0 :: x1 :: x2 :: x3 :: x4 :: x5 :: x6 :: x7 :: x8 :: x9 :: x10 :: x11 :: x12 :: x13 :: x14 :: x15 :: x16 :: l) 16 = x16 := rfl
@[simp] theorem nth_17 (x0 x1 x2 x3 x4 x5 x6 x7 x8 x9 x10 x11 x12 x13 x14 x15 x16 x17 : PV) (l : List PV) : nth (x0 :: x1 :: x2 :: x3 :: x4 :: x5 :: x6 :: x7 :: x8 :: x9 :: x10 :: x11 :: x12 :: x13 :: x14 :: x15 :: x16 :: x17 :: l) 17 = x17 := rfl
@[simp] theorem nth_18 (x0 x1 x2 x3 x4 x5 x6 x7 x8 x9 x10 x11 x12 x13 x14 x15 x16 x17 x18 : PV) (l : List PV) : nth (x0 :: x1 :: x2 :: x3 :: x4 :: x5 :: x6 :: x7 :: x8 :: x9 :: x10 :: x11 :: x12 :: x13 :: x14 :: x15 :: x16 :: x17 :: x18 :: l) 18 = x18 := rfl
@[simp] theorem nth_19 (x0 x1 x2 x3 x4 x5 x6 x7 x8 x9 x10 x11 x12 x13 x14 x15 x16 x17 x18 x19 : PV) (l : List PV) : nth (x0 :: x1 :: x2 :: x3 :: x4 :: x5 :: x6 :: x7 :: x8 :: x9 :: x10 :: x11 :: x12 :: x13 :: x14 :: x15 :: x16 :: x17 :: x18 :: x19 :: l) 19 = x19 := rfl
@[simp] theorem nth_20 (x0 x1 x2 x3 x4 x5 x6 x7 x8 x9 x10 x11 x12 x13 x14 x15 x16 x17 x18 x19 x20 : PV) (l : List PV) : nth (x0 :: x1 :: x2 :: x3 :: x4 :: x5 :: x6 :: x7 :: x8 :: x9 :: x10 :: x11 :: x12 :: x13 :: x14 :: x15 :: x16 :: x17 :: x18 :: x19 :: x20 :: l) 20 = x20 := rfl
@[simp] theorem nth_21 (x0 x1 x2 x3 x4 x5 x6 x7 x8 x9 x10 x11 x12 x13 x14 x15 x16 x17 x18 x19 x20 x21 : PV) (l : List PV) : nth (x0 :: x1 :: x2 :: x3 :: x4 :: x5 :: x6 :: x7 :: x8 :: x9 :: x10 :: x11 :: x12 :: x13 :: x14 :: x15 :: x16 :: x17 :: x18 :: x19 :: x20 :: x21 :: l) 21 = x21 := rfl
@[simp] theorem nth_22 (x0 x1 x2 x3 x4 x5 x6 x7 x8 x9 x10 x11 x12 x13 x14 x15 x16 x17 x18 x19 x20 x21 x22 : PV) (l : List PV) : nth (x0 :: x1 :: x2 :: x3 :: x4 :: x5 :: x6 :: x7 :: x8 :: x9 :: x10 :: x11 :: x12 :: x13 :: x14 :: x15 :: x16 :: x17 :: x18 :: x19 :: x20 :: x21 :: x22 :: l) 22 = x22 := rfl
@[simp] theorem nth_23 (x0 x1 x2 x3 x4 x5 x6 x7 x8 x9 x10 x11 x12 x13 x14 x15 x16 x17 x18 x19 x20 x21 x22 x23 : PV) (l : List PV) : nth (x0 :: x1 :: x2 :: x3 :: x4 :: x5 :: x6 :: x7 :: x8 :: x9 :: x10 :: x11 :: x12 :: x13 :: x14 :: x15 :: x16 :: x17 :: x18 :: x19 :: x20 :: x21 :: x22 :: x23 :: l) 23 = x23 := rfl

theorem wrap64 {x : Int} (h1 : -9223372036854775808 ≤ x) (h2 : x < 9223372036854775808) : IntKind.i64.wrap x = x := by
  unfold IntKind.wrap
  simp only [IntKind.bits, IntKind.signed]
  first
    | (simp only [if_true]; omega)
    | (simp; omega)
    | omega
theorem wrap8 {x : Int} (h1 : 0 ≤ x) (h2 : x < 256) : IntKind.u8.wrap x = x := by
  unfold IntKind.wrap
  simp only [IntKind.bits, IntKind.signed]
  first
    | omega
    | (simp; omega)

theorem nth_mid (xs ys : List PV) (x : PV) : nth (xs ++ x :: ys) xs.length = x := by simp [nth, List.getD_eq_getElem?_getD]
theorem set_mid (xs ys : List PV) (x y : PV) : (xs ++ x :: ys).set xs.length y = xs ++ y :: ys := by simp
theorem nth_mem {l : List PV} {i : Nat} (h : i < l.length) : nth l i ∈ l := by
  rw [nth, List.getD_eq_getElem?_getD, List.getElem?_eq_getElem h]
  exact List.getElem_mem h
theorem take_nth {l : List PV} {i : Nat} (h : i < l.length) : l.take (i + 1) = l.take i ++ [nth l i] := by
  rw [List.take_add_one, nth, List.getD_eq_getElem?_getD, List.getElem?_eq_getElem h]; rfl
/-- Room that is filled in order. -/
theorem fill_set (l : List PV) (z : PV) {i : Nat} (h : i < l.length) : (l.take i ++ List.replicate (l.length - i) z).set i (nth l i) = l.take (i + 1) ++ List.replicate (l.length - (i + 1)) z := by
  obtain ⟨k, hk⟩ : ∃ k, l.length - i = k + 1 := ⟨l.length - i - 1, by omega⟩
  have e : l.length - (i + 1) = k := by omega
  rw [hk, e, List.replicate_succ]
  have hl : (l.take i).length = i := by simp; omega
  have := set_mid (l.take i) (List.replicate k z) z (nth l i)
  rw [hl] at this
  rw [this, take_nth h, List.append_assoc]
  rfl
end Go.Rsc
