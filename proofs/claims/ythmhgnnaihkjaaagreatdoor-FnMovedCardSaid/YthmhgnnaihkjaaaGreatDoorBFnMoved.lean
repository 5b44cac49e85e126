/- What functions of the program and of the reference come to, for the law FnMoved. Each under the conditions that it names. -/
import Derived.Test.YthmhgnnaihkjaaaGreatDoorAFnMoved
namespace Go.Proofs.YthmhgnnaihkjaaaGreatDoor.GFnMoved
open Go Go.Rsc Go.Proofs.YthmhgnnaihkjaaaGreatDoor
set_option maxRecDepth 100000
set_option linter.unusedVariables false
set_option linter.unusedSimpArgs false
def okW (x : Int) : Bool := decide (-1073741824 ≤ x ∧ x ≤ 1073741823)
def okR (x a b : Int) : Bool := decide (a ≤ x ∧ x ≤ b)
theorem is54 (x y z : Int) : Rn 54 [.int x, .int y, .int z] [.bool (okR x y z)] := by
  refine Is.of e54 (Evt.all fun n => ?_)
  by_cases h : x ≥ y <;> simp [F54, geI, leI, h, okR]
theorem is51 (x y z : Int) : Rn 75 [.int x, .int y, .int z] [.bool (okR x y z)] := by
  refine Is.of e75 (Evt.all fun n => ?_)
  by_cases h : x ≥ y <;> simp [F75, geI, leI, h, okR]
theorem is102 (x : Int) : Rn 68 [.int x] [.bool (okW x)] :=
  Is.of e68 ((is54 x (-1073741824) 1073741823).mp fun n h => by simp only [okR] at h; simp [F68, h, okW])
theorem is101 (x : Int) : Rn 76 [.int x] [.bool (okW x)] :=
  Is.of e76 ((is51 x (-1073741824) 1073741823).mp fun n h => by simp only [okR] at h; simp [F76, h, okW])
theorem okR_in {x a b : Int} (h : okR x a b = true) : a ≤ x ∧ x ≤ b := by simpa [okR] using h
/-! ### Words of a heap -/
theorem isB_unit (b : Bool) : PV.isB .unit b = false := rfl
theorem and1 (x : Int) : arith .and .i64 x 1 = x % 2 := by
  have e2 : (BitVec.ofInt 64 (1 : Int)).toNat = 2 ^ 1 - 1 := by decide
  show IntKind.i64.wrap ((BitVec.ofInt 64 x &&& BitVec.ofInt 64 (1 : Int)).toNat : Int) = _
  rw [BitVec.toNat_and, e2, Nat.and_two_pow_sub_one_eq_mod _ 1, BitVec.toNat_ofInt, wrap64 (by omega) (by omega)]
  omega
theorem and63 (x : Int) : arith .and .i64 x 63 = x % 64 := by
  have e2 : (BitVec.ofInt 64 (63 : Int)).toNat = 2 ^ 6 - 1 := by decide
  show IntKind.i64.wrap ((BitVec.ofInt 64 x &&& BitVec.ofInt 64 (63 : Int)).toNat : Int) = _
  rw [BitVec.toNat_and, e2, Nat.and_two_pow_sub_one_eq_mod _ 6, BitVec.toNat_ofInt, wrap64 (by omega) (by omega)]
  omega
theorem shr1 (x : Int) : arith .shr .i64 x 1 = x / 2 := by
  show x.fdiv (2 ^ 1) = _
  rw [Int.fdiv_eq_ediv_of_nonneg _ (by decide)]
  rfl
theorem shr7I (x : Int) : arith .shr .i64 x 7 = x / 128 := by
  show x.fdiv (2 ^ 7) = _
  rw [Int.fdiv_eq_ediv_of_nonneg _ (by decide)]
  rfl
theorem quo64 {x : Int} (h : 0 ≤ x) (h2 : x < 9223372036854775808) : arith .quo .i64 x 64 = x / 64 := by
  show IntKind.i64.wrap (x.tdiv 64) = _
  rw [Int.tdiv_eq_ediv_of_nonneg h]
  exact wrap64 (by omega) (by omega)
def gw (W : List Int) (i : Nat) : Int := W.getD i 0
theorem nth_gw {W : List Int} {i : Nat} (h : i < W.length) : nth (W.map PV.int) i = .int (gw W i) := by
  unfold nth gw
  simp [List.getD_eq_getElem?_getD, h]
abbrev words (W : List Int) : PV := .list (W.map PV.int)
abbrev heapV (W : List Int) (half base next : Int) : PV := .agg [words W, .int half, .int base, .int next]
theorem words_of : ∀ {l : List PV}, (∀ q, q ∈ l → ∃ x : Int, q = .int x) → ∃ W : List Int, l = W.map PV.int
  | [], _ => ⟨[], rfl⟩
  | x :: l, h => by
    obtain ⟨n, rfl⟩ := h x (by simp)
    obtain ⟨W, rfl⟩ := words_of (l := l) fun q hq => h q (by simp [hq])
    exact ⟨n :: W, rfl⟩
def okHd (w : Int) : Bool := !eqI (w % 2) 0 && (geI (w / 2) 0 && (leI (w / 2 / 128) 3000 && leI (w / 2 / 2 % 64) 20))
theorem okHd_out {w : Int} (h : okHd w = true) : w % 2 ≠ 0 ∧ 0 ≤ w / 2 ∧ w / 2 / 128 ≤ 3000 ∧ w / 2 / 2 % 64 ≤ 20 := by
  simpa [okHd, eqI, geI, leI] using h
theorem neI_not (x y : Int) : neI x y = !eqI x y := by simp [neI, eqI, bne]
theorem gtI_not (x y : Int) : gtI x y = !leI x y := by
  by_cases h : x ≤ y
  · rw [gtF h, leT h]; rfl
  · rw [gtT (by omega), leF (by omega)]; rfl
def mny (w : Int) : Nat := (w / 2 / 2 % 64).toNat
theorem mny_eq (w : Int) : (mny w : Int) = w / 2 / 2 % 64 := by unfold mny; omega
theorem mny_lt (w : Int) : mny w < 64 := by unfold mny; omega
/-- The places of blocks from a place on, as far as they are right. -/
def plc (W : List Int) (next : Nat) : Nat → Nat → Bool × List Nat
  | 0, _ => (true, [])
  | k + 1, at_ => if at_ < next then
      if okHd (gw W at_) && decide (at_ + 1 + mny (gw W at_) ≤ next) then ((plc W next k (at_ + 1 + mny (gw W at_))).1, at_ :: (plc W next k (at_ + 1 + mny (gw W at_))).2) else (false, [])
    else (true, [])
abbrev nats (l : List Nat) : PV := .list (l.map fun p : Nat => PV.int (p : Int))
theorem plc_stop {W : List Int} {next k at_ : Nat} (h : next ≤ at_) : plc W next k at_ = (true, []) := by
  cases k with
  | zero => rfl
  | succ k => simp [plc, Nat.not_lt.2 h]
theorem plc_in {W : List Int} {next : Nat} : ∀ {k at_ : Nat}, ∀ p, p ∈ (plc W next k at_).2 → at_ ≤ p ∧ p + 1 + mny (gw W p) ≤ next ∧ okHd (gw W p) = true
  | 0, _, p, h => by simp [plc] at h
  | k + 1, at_, p, h => by
    simp only [plc] at h
    split at h
    · split at h
      · rename_i h1 h2
        simp only [Bool.and_eq_true, decide_eq_true_eq] at h2
        rcases List.mem_cons.1 h with e | e
        · subst e; exact ⟨Nat.le_refl _, h2.2, h2.1⟩
        · have := plc_in p e
          exact ⟨by omega, this.2⟩
      · simp at h
    · simp at h
theorem plc_sorted {W : List Int} {next : Nat} : ∀ {k at_ : Nat}, (plc W next k at_).2.Pairwise (· < ·)
  | 0, _ => by simp [plc]
  | k + 1, at_ => by
    simp only [plc]
    split
    · split
      · refine List.pairwise_cons.2 ⟨fun p hp => ?_, plc_sorted⟩
        have := plc_in p hp
        omega
      · simp
    · simp
theorem plc_len {W : List Int} {next : Nat} : ∀ {k at_ : Nat}, (plc W next k at_).2.length ≤ k
  | 0, _ => by simp [plc]
  | k + 1, at_ => by
    simp only [plc]
    split
    · split
      · have := plc_len (W := W) (next := next) (k := k) (at_ := at_ + 1 + mny (gw W at_))
        simp
        omega
      · simp
    · simp
/-- A word that may stand in a heap: an int word of a word, or the place of a block. -/
def inP (P : List Nat) (x : Int) : Bool := P.any fun p : Nat => eqI (p : Int) x
theorem inP_iff {P : List Nat} {x : Int} : inP P x = true ↔ ∃ p ∈ P, (p : Int) = x := by simp [inP, eqI]
def there (P : List Nat) (w : Int) : Bool := !eqI (w % 2) 0 && okW (w / 2) || eqI (w % 2) 0 && inP P (w / 2)
def preB (W : List Int) (half base next : Int) : Bool := okR half 1 3000 && (eqI W.length (2 * half) && ((eqI base 0 || eqI base half) && okR next base (base + half)))
def plcs (W : List Int) (base next : Int) : List Nat := (plc W next.toNat 3000 base.toNat).2
def plcsB (W : List Int) (base next : Int) : Bool := (plc W next.toNat 3000 base.toNat).1
def kidB (W : List Int) (P : List Nat) (p : Nat) : Bool := (List.range (mny (gw W p))).all fun k => there P (gw W (p + 1 + k))
def gp (P : List Nat) (i : Nat) : Nat := P.getD i 0
theorem nth_gp {P : List Nat} {i : Nat} (h : i < P.length) : nth (P.map fun p : Nat => PV.int (p : Int)) i = .int (gp P i) := by
  unfold nth gp
  simp [List.getD_eq_getElem?_getD, h]
theorem gp_mem {P : List Nat} {i : Nat} (h : i < P.length) : gp P i ∈ P := by
  unfold gp
  simp [List.getD_eq_getElem?_getD, h]
def heapB (W : List Int) (half base next : Int) : Bool := preB W half base next && (plcsB W base next && (List.range (plcs W base next).length).all fun i => kidB W (plcs W base next) (gp (plcs W base next) i))
structure Pre (W : List Int) (half base next : Int) : Prop where
  h1 : 1 ≤ half ∧ half ≤ 3000
  h2 : (W.length : Int) = 2 * half
  h3 : base = 0 ∨ base = half
  h4 : base ≤ next ∧ next ≤ base + half
theorem pre_of {W : List Int} {half base next : Int} (h : preB W half base next = true) : Pre W half base next := by
  simp only [preB, Bool.and_eq_true, Bool.or_eq_true, eqI, beq_iff_eq] at h
  exact ⟨okR_in h.1, h.2.1, h.2.2.1, okR_in h.2.2.2⟩
theorem Pre.rng {W : List Int} {half base next : Int} (h : Pre W half base next) : W.length ≤ 6000 ∧ 0 ≤ base ∧ base.toNat ≤ next.toNat ∧ next.toNat ≤ W.length ∧ next.toNat ≤ base.toNat + 3000 ∧ (base.toNat : Int) = base ∧ (next.toNat : Int) = next := by
  obtain ⟨h1, h2, h3, h4⟩ := h
  omega
theorem plcs_in {W : List Int} {half base next : Int} (h : Pre W half base next) {p : Nat} (hp : p ∈ plcs W base next) : p + 1 + mny (gw W p) ≤ W.length ∧ okHd (gw W p) = true := by
  have h1 := plc_in p hp
  have h2 := h.rng
  exact ⟨by omega, h1.2.2⟩
/-! ### Words and headers -/
theorem refI (w : Int) : Rn 28 [.int w] [.bool (eqI (w % 2) 0)] := Is.of e28 (Evt.all fun n => by simp [F28, and1])
theorem refS (w : Int) : Rn 61 [.int w] [.bool (eqI (w % 2) 0)] := Is.of e61 (Evt.all fun n => by simp [F61, and1])
theorem wrefI (w : Int) : Rn 30 [.int w] [.int (w / 2)] := Is.of e30 (Evt.all fun n => by simp [F30, shr1, geI])
theorem wintI (w : Int) : Rn 39 [.int w] [.int (w / 2)] := Is.of e39 (Evt.all fun n => by simp [F39, shr1, geI])
theorem wrefS (w : Int) : Rn 63 [.int w] [.int (w / 2)] := Is.of e63 (Evt.all fun n => by simp [F63, shr1, geI])
theorem wintS (w : Int) : Rn 66 [.int w] [.int (w / 2)] := Is.of e66 (Evt.all fun n => by simp [F66, shr1, geI])
theorem isIntI (w : Int) : Rn 46 [.int w] [.bool (!eqI (w % 2) 0 && okW (w / 2))] := by
  refine Is.of e46 ((refI w).mp3 (wintI w) (is102 (w / 2)) fun n q1 q2 q3 => ?_)
  cases h : eqI (w % 2) 0 <;> rw [h] at q1 <;> simp [F46, q1, q2, q3]
theorem hdrI (w : Int) : Rn 40 [.int w] [.bool (eqI (w / 2 % 2) 1), .int (w / 2 / 128), .int (mny w), .bool (okHd w)] := by
  refine Is.of e40 ((refI w).mp2 (wintI w) fun n q1 q2 => ?_)
  rw [mny_eq]
  cases h1 : eqI (w % 2) 0 <;> cases h2 : geI (w / 2) 0 <;> cases h3 : leI (w / 2 / 128) 3000 <;> rw [h1] at q1 <;>
    simp [F40, q1, q2, and1, and63, shr1, shr7I, okHd, h1, h2, h3, geT] <;> simp [leI, decide_eq_decide]
def tagS (w : Int) : Int := arith .quo .i64 (w / 2 / 2) 64
theorem tagS_eq {w : Int} (h : 0 ≤ w) (h2 : w < 9223372036854775808) : tagS w = w / 2 / 128 := by
  unfold tagS
  rw [quo64 (by omega) (by omega)]
  omega
theorem ofS (w : Int) : Rn 42 [.int w] [.bool (eqI (w / 2 % 2) 1), .int (tagS w), .int (mny w)] := by
  refine Is.of e42 (Evt.all fun n => ?_)
  rw [mny_eq]
  simp [F42, and1, and63, shr1, geT, neT, tagS]
/-! ### The places of blocks -/
theorem natsLen (out : List Nat) : (out.map fun p : Nat => PV.int (p : Int)).length = out.length := List.length_map ..
theorem natsSnoc (out : List Nat) (p : Nat) : (out.map fun p : Nat => PV.int (p : Int)) ++ [PV.int (p : Int)] = (out ++ [p]).map fun p : Nat => PV.int (p : Int) := by simp
theorem wordsLen (W : List Int) : (W.map PV.int).length = W.length := List.length_map ..
theorem blkI {W : List Int} {half base next : Int} (h : Pre W half base next) : ∀ (k at_ : Nat) (out : List Nat), next.toNat ≤ at_ + k → at_ ≤ next.toNat → out.length + k ≤ 10000 →
    Evt fun n => ∀ m, k + 1 ≤ m → loopEv (L45_0 (ev Tryz.prog sg n) n) m [.int at_, nats out, heapV W half base next] = if (plc W next.toNat k at_).1 then some (.x 0, [nats (out ++ (plc W next.toNat k at_).2)]) else some (.r, [.list [], .bool false]) := by
  have hr := h.rng
  have stop : ∀ (at_ : Nat) (out : List Nat), next.toNat ≤ at_ → ∀ n, L45_0 (ev Tryz.prog sg n) n [.int at_, nats out, heapV W half base next] = some (.x 0, [nats out]) := fun at_ out ha n => by
    simp (disch := omega) [L45_0, ltF]
  intro k
  induction k with
  | zero =>
    intro at_ out h1 h2 h3
    refine Evt.all fun n m hm => ?_
    obtain ⟨m, rfl⟩ : ∃ m', m = m' + 1 := ⟨m - 1, by omega⟩
    simp [loopEv, stop at_ out (by omega) n, plc]
  | succ k ih =>
    intro at_ out h1 h2 h3
    by_cases hlt : at_ < next.toNat
    rotate_left
    · refine Evt.all fun n m hm => ?_
      obtain ⟨m, rfl⟩ : ∃ m', m = m' + 1 := ⟨m - 1, by omega⟩
      simp [loopEv, stop at_ out (by omega) n, plc_stop (Nat.le_of_not_lt hlt)]
    have hnth := nth_gw (W := W) (i := at_) (by omega)
    have hm := mny_lt (gw W at_)
    have hl := natsLen out
    by_cases hc : (okHd (gw W at_) && decide (at_ + 1 + mny (gw W at_) ≤ next.toNat)) = true
    · simp only [Bool.and_eq_true, decide_eq_true_eq] at hc
      refine (hdrI (gw W at_)).mp2 (ih (at_ + 1 + mny (gw W at_)) (out ++ [at_]) (by omega) (by omega) (by simp; omega)) fun n q1 q2 m hm2 => ?_
      obtain ⟨m, rfl⟩ : ∃ m', m = m' + 1 := ⟨m - 1, by omega⟩
      rw [hc.1] at q1
      have hB : L45_0 (ev Tryz.prog sg n) n [.int at_, nats out, heapV W half base next] = some (.n, [.int (at_ + 1 + mny (gw W at_) : Nat), nats (out ++ [at_]), heapV W half base next]) := by
        simp (disch := omega) [L45_0, ltT, geT, hnth, q1, wrap64, gtF, leNT, hl]
        omega
      simp only [loopEv, hB, thenN_n]
      rw [q2 m (by omega)]
      simp [plc, hlt, hc.1, hc.2]
    · have hp : plc W next.toNat (k + 1) at_ = (false, []) := by simp [plc, hlt, hc]
      refine (hdrI (gw W at_)).mp fun n q1 m hm2 => ?_
      obtain ⟨m, rfl⟩ : ∃ m', m = m' + 1 := ⟨m - 1, by omega⟩
      have hB : L45_0 (ev Tryz.prog sg n) n [.int at_, nats out, heapV W half base next] = some (.r, [.list [], .bool false]) := by
        cases ho : okHd (gw W at_) with
        | false =>
          rw [ho] at q1
          simp (disch := omega) [L45_0, ltT, geT, hnth, q1]
        | true =>
          rw [ho] at q1 hc
          simp at hc
          simp (disch := omega) [L45_0, ltT, geT, hnth, q1, wrap64, gtT]
      simp [loopEv, hB, hp]
theorem blkS {W : List Int} {half base next : Int} (h : Pre W half base next) (hW : ∀ w, w ∈ W → w < 9223372036854775808) : ∀ (k at_ : Nat) (out : List Nat), next.toNat ≤ at_ + k → at_ ≤ next.toNat → out.length + k ≤ 10000 →
    Evt fun n => ∀ m, k + 1 ≤ m → loopEv (L56_0 (ev Tryz.prog sg n) n) m [.int at_, nats out, heapV W half base next] = if (plc W next.toNat k at_).1 then some (.x 0, [nats (out ++ (plc W next.toNat k at_).2)]) else some (.r, [nats (out ++ (plc W next.toNat k at_).2), .bool false]) := by
  have hr := h.rng
  have stop : ∀ (at_ : Nat) (out : List Nat), next.toNat ≤ at_ → ∀ n, L56_0 (ev Tryz.prog sg n) n [.int at_, nats out, heapV W half base next] = some (.x 0, [nats out]) := fun at_ out ha n => by
    simp (disch := omega) [L56_0, ltF]
  intro k
  induction k with
  | zero =>
    intro at_ out h1 h2 h3
    refine Evt.all fun n m hm => ?_
    obtain ⟨m, rfl⟩ : ∃ m', m = m' + 1 := ⟨m - 1, by omega⟩
    simp [loopEv, stop at_ out (by omega) n, plc]
  | succ k ih =>
    intro at_ out h1 h2 h3
    by_cases hlt : at_ < next.toNat
    rotate_left
    · refine Evt.all fun n m hm => ?_
      obtain ⟨m, rfl⟩ : ∃ m', m = m' + 1 := ⟨m - 1, by omega⟩
      simp [loopEv, stop at_ out (by omega) n, plc_stop (Nat.le_of_not_lt hlt)]
    have hnth := nth_gw (W := W) (i := at_) (by omega)
    have hm := mny_lt (gw W at_)
    have hme := mny_eq (gw W at_)
    have hl := natsLen out
    have hw : gw W at_ < 9223372036854775808 := hW _ (by unfold gw; simp [List.getD_eq_getElem?_getD, show at_ < W.length by omega])
    generalize hwv : gw W at_ = w at *
    by_cases hc : (okHd w && decide (at_ + 1 + mny w ≤ next.toNat)) = true
    · simp only [Bool.and_eq_true, decide_eq_true_eq] at hc
      obtain ⟨o1, o2, o3, o4⟩ := okHd_out hc.1
      have ht := tagS_eq (w := w) (by omega) hw
      refine (ofS w).mp3 (refS w) (ih (at_ + 1 + mny w) (out ++ [at_]) (by omega) (by omega) (by simp; omega)) fun n q1 q3 q2 m hm2 => ?_
      obtain ⟨m, rfl⟩ : ∃ m', m = m' + 1 := ⟨m - 1, by omega⟩
      rw [eqF o1] at q3
      have hB : L56_0 (ev Tryz.prog sg n) n [.int at_, nats out, heapV W half base next] = some (.n, [.int (at_ + 1 + mny w : Nat), nats (out ++ [at_]), heapV W half base next]) := by
        simp (disch := omega) [L56_0, ltT, ltF, geT, hnth, q1, q3, wrap64, gtF, geF, leNT, hl, ht]
        try omega
      simp only [loopEv, hB, thenN_n]
      rw [q2 m (by omega)]
      simp [plc, hlt, hc.1, hc.2, hwv]
    · have hp : plc W next.toNat (k + 1) at_ = (false, []) := by simp [plc, hlt, hc, hwv]
      refine (ofS w).mp2 (refS w) fun n q1 q3 m hm2 => ?_
      obtain ⟨m, rfl⟩ : ∃ m', m = m' + 1 := ⟨m - 1, by omega⟩
      have hB : L56_0 (ev Tryz.prog sg n) n [.int at_, nats out, heapV W half base next] = some (.r, [nats out, .bool false]) := by
        by_cases hn : w < 0
        · simp (disch := omega) [L56_0, ltT, geT, hnth, q1]
        have ht := tagS_eq (w := w) (by omega) hw
        by_cases he : w % 2 = 0
        · rw [eqT he] at q3
          simp (disch := omega) [L56_0, ltT, ltF, geT, hnth, q1, q3]
        rw [eqF he] at q3
        by_cases h3 : w / 2 / 128 ≤ 3000
        rotate_left
        · simp (disch := omega) [L56_0, ltT, ltF, geT, hnth, q1, q3, ht, gtT]
        by_cases h4 : (mny w : Int) ≤ 20
        rotate_left
        · simp (disch := omega) [L56_0, ltT, ltF, geT, hnth, q1, q3, ht, gtT, gtF]
        have ho : okHd w = true := by
          unfold okHd
          rw [eqF he, geT (by omega), leT h3, leT (by omega)]; rfl
        rw [ho] at hc
        simp at hc
        simp (disch := omega) [L56_0, ltT, ltF, geT, hnth, q1, q3, ht, gtF, wrap64]
      simp [loopEv, hB, hp]
theorem andF' (b : Bool) : (b && false) = false := by cases b <;> rfl
/-- What a heap must be, ahead of all else. -/
theorem blocksI {W : List Int} {half base next : Int} (hW : W.length ≤ 1048576) : Rn 45 [heapV W half base next] (if preB W half base next && plcsB W base next then [nats (plcs W base next), .bool true] else [.list [], .bool false]) := by
  have hl := wordsLen W
  have r1 := is54 half 1 3000
  by_cases c1 : okR half 1 3000 = true
  rotate_left
  · have c1 : okR half 1 3000 = false := by simpa using c1
    rw [c1] at r1
    refine Is.of e45 (r1.mp fun n q1 => ?_)
    simp [F45, q1, preB, c1]
  have hh := okR_in c1
  rw [c1] at r1
  have w1 : IntKind.i64.wrap (2 * half) = 2 * half := wrap64 (by omega) (by omega)
  by_cases c2 : (W.length : Int) = 2 * half
  rotate_left
  · refine Is.of e45 (r1.mp fun n q1 => ?_)
    simp [F45, q1, preB, c1, w1, neT c2, eqF c2]
  by_cases c3 : base = 0 ∨ base = half
  rotate_left
  · have c30 : base ≠ 0 := fun e => c3 (.inl e)
    have c31 : base ≠ half := fun e => c3 (.inr e)
    refine Is.of e45 (r1.mp fun n q1 => ?_)
    simp [F45, q1, preB, c1, w1, neF c2, eqT c2, neT c30, neT c31, eqF c30, eqF c31]
  have w2 : IntKind.i64.wrap (base + half) = base + half := wrap64 (by omega) (by omega)
  have c4 : (neI base 0 && neI base half) = false := by
    rcases c3 with e | e
    · rw [neF e]; rfl
    · rw [neF e, andF']
  have c5 : (eqI base 0 || eqI base half) = true := by
    rcases c3 with e | e
    · rw [eqT e]; rfl
    · rw [eqT e, Bool.or_true]
  have r2 := is54 next base (base + half)
  have hv : ∀ n, ev Tryz.prog sg n 54 [.int half, .int 1, .int 3000] = some [.bool true] → ev Tryz.prog sg n 54 [.int next, .int base, .int (base + half)] = some [.bool (okR next base (base + half))] →
      F45 (ev Tryz.prog sg n) n [heapV W half base next] = if okR next base (base + half) then (thenN (thenE (loopEv (L45_0 (ev Tryz.prog sg n) n) n [.int base, .list [], heapV W half base next]) (passB 0)) (fun p10 => (some [(nth p10 0), (PV.bool true)])) (retE fun q11 => [(nth q11 0), (nth q11 1)])) else some [.list [], .bool false] := fun n q1 q2 => by
    have hsel : ∀ x y : Bool, selB x (.bool y) (.bool false) = .bool (x && y) := fun x y => by cases x <;> rfl
    rcases c3 with e | e
    · cases hb : okR next base (base + half) <;> rw [hb] at q2 <;> simp [F45, q1, q2, w1, w2, neF c2, neF e]
    · by_cases e0 : base = 0
      · cases hb : okR next base (base + half) <;> rw [hb] at q2 <;> simp [F45, q1, q2, w1, w2, neF c2, neF e0]
      · cases hb : okR next base (base + half) <;> rw [hb] at q2 <;> simp [F45, q1, q2, w1, w2, neF c2, neF e, neT e0]
  cases hn : okR next base (base + half) with
  | false =>
    rw [hn] at r2
    refine Is.of e45 (r1.mp2 r2 fun n q1 q2 => ?_)
    rw [hv n q1 (by rw [hn]; exact q2), hn]
    simp [preB, c1, eqT c2, c5, hn]
  | true =>
    have hp : preB W half base next = true := by simp [preB, c1, eqT c2, c5, hn]
    have h := pre_of hp
    have hr := h.rng
    rw [hn] at r2
    refine Is.of e45 (r1.mp4 r2 (blkI h 3000 base.toNat [] (by omega) (by omega) (by simp)) (Evt.ge 3001) fun n q1 q2 q3 q4 => ?_)
    rw [hv n q1 (by rw [hn]; exact q2), hn, hp]
    have q3 := q3 n (by omega)
    rw [hr.2.2.2.2.2.1] at q3
    rw [show nats [] = PV.list [] from rfl, List.nil_append] at q3
    rw [if_pos rfl, q3]
    cases hc : (plc W next.toNat 3000 base.toNat).1 <;> simp [hc, plcs, plcsB]
theorem placesS {W : List Int} {half base next : Int} (h : Pre W half base next) (hW : ∀ w, w ∈ W → w < 9223372036854775808) : Rn 56 [heapV W half base next] [nats (plcs W base next), .bool (plcsB W base next)] := by
  have hr := h.rng
  refine Is.of e56 ((blkS h hW 3000 base.toNat [] (by omega) (by omega) (by simp)).mp2 (Evt.ge 3001) fun n q3 q4 => ?_)
  have q3 := q3 n (by omega)
  rw [hr.2.2.2.2.2.1] at q3
  rw [show nats [] = PV.list [] from rfl, List.nil_append] at q3
  cases hc : (plc W next.toNat 3000 base.toNat).1 <;> rw [hc] at q3 <;> simp at q3 <;> simp [F56, q3, plcs, plcsB, hc]
/-! ### Whether a word is the place of a block -/
theorem hasS (P : List Nat) (x : Int) (hP : P.length ≤ 1048576) : Rn 88 [nats P, .int x] [.bool (inP P x)] := by
  have hl := natsLen P
  have h1 := all_loop (body := fun n => L88_0 (ev Tryz.prog sg n) n) (pay := fun i => [.int i, nats P, .int x]) (c := fun i => !eqI (gp P i : Int) x) (e1 := .x 0) (r1 := []) (e2 := .r) (r2 := [.bool true]) P.length (by simp) (by simp) (fun i hi hc => Evt.all fun n => ?_) (fun i hi hc => Evt.all fun n => ?_) (Evt.all fun n => ?_)
  · have hb : inP P x = !(List.range P.length).all fun i => !eqI (gp P i : Int) x := by
      cases hi : inP P x with
      | true =>
        obtain ⟨p, hp, e⟩ := inP_iff.1 hi
        obtain ⟨i, hi, rfl⟩ := List.getElem_of_mem hp
        have hg : gp P i = P[i] := by simp [gp, List.getD_eq_getElem?_getD, hi]
        have : ((List.range P.length).all fun i => !eqI (gp P i : Int) x) = false := List.all_eq_false.2 ⟨i, by simpa using hi, by rw [hg, eqT e]; simp⟩
        rw [this]; rfl
      | false =>
        have : ((List.range P.length).all fun i => !eqI (gp P i : Int) x) = true := List.all_eq_true.2 fun i hi2 => by
          by_cases e : (gp P i : Int) = x
          · rw [inP_iff.2 ⟨_, gp_mem (by simpa using hi2), e⟩] at hi; cases hi
          · rw [eqF e]; rfl
        rw [this]; rfl
    rw [hb]
    refine Is.of e88 (h1.mp fun n q => ?_)
    simp only [show ((0 : Nat) : Int) = 0 from rfl] at q
    cases hc : (List.range P.length).all fun i => !eqI (gp P i : Int) x <;> rw [hc] at q <;> simp at q <;> simp [F88, q]
  · have hn := nth_gp hi
    have hc : eqI (gp P i : Int) x = false := by simpa using hc
    simp (disch := omega) [L88_0, ltT, geT, hl, hn, hc, wrap64]
  · have hn := nth_gp hi
    have hc : eqI (gp P i : Int) x = true := by simpa using hc
    simp (disch := omega) [L88_0, ltT, geT, hl, hn, hc]
  · simp (disch := omega) [L88_0, ltF, hl]
theorem inS (P : List Nat) (x : Int) (hP : P.length ≤ 1048576) : Rn 62 [nats P, .int x] [.bool (inP P x)] :=
  Is.of e62 ((hasS P x hP).mp fun n q => by simp [F62, q])
theorem thereS (P : List Nat) (w : Int) (hP : P.length ≤ 1048576) : Rn 57 [nats P, .int w] [.bool (there P w)] := by
  refine Is.of e57 (((refS w).and (wrefS w)).mp4 (inS P (w / 2) hP) (wintS w) (is101 (w / 2)) fun n q1 q2 q3 q4 => ?_)
  obtain ⟨q0, q1⟩ := q1
  cases h : eqI (w % 2) 0 <;> rw [h] at q0 <;> simp [F57, q0, q1, q2, q3, q4, there, h]
theorem lessI (x y : Int) : Rn 83 [.int x, .int y] [.bool (ltI x y)] := by
  have h : ∀ z : Int, Rn 97 [.int z] [.bool false] := fun z => Is.of e97 (Evt.all fun n => by simp [F97, neF])
  exact Is.of e83 ((h x).mp fun n q => by simp [F83, q])
theorem nanI (z : Int) : Rn 90 [.int z] [.bool false] := Is.of e90 (Evt.all fun n => by simp [F90, neF])
theorem mid_eq {i j : Nat} (h : i + j < 4611686018427387904) : IntKind.i64.wrap (arith .shr .u64 (IntKind.u64.wrap (IntKind.i64.wrap ((i : Int) + (j : Int)))) 1) = (((i + j) / 2 : Nat) : Int) := by
  have e1 : IntKind.i64.wrap ((i : Int) + (j : Int)) = (i : Int) + j := wrap64 (by omega) (by omega)
  have e2 : IntKind.u64.wrap ((i : Int) + (j : Int)) = (i : Int) + j := by
    unfold IntKind.wrap
    simp only [IntKind.bits, IntKind.signed]
    first
      | omega
      | (simp; omega)
  rw [e1, e2]
  have e3 : arith .shr .u64 ((i : Int) + (j : Int)) 1 = ((i : Int) + j) / 2 := by
    show ((i : Int) + j).fdiv (2 ^ 1) = _
    rw [Int.fdiv_eq_ediv_of_nonneg _ (by decide)]
    rfl
  rw [e3, wrap64 (by omega) (by omega)]
  omega
theorem gp_lt {P : List Nat} (hs : P.Pairwise (· < ·)) {i j : Nat} (h : i < j) (hj : j < P.length) : gp P i < gp P j := by
  have := List.pairwise_iff_getElem.1 hs i j (by omega) hj h
  simpa [gp, List.getD_eq_getElem?_getD, hj, show i < P.length by omega] using this
theorem bsLoop (P : List Nat) (x : Int) (hs : P.Pairwise (· < ·)) (hP : P.length ≤ 1048576) : ∀ (d i j : Nat), j ≤ i + d → i ≤ j → j ≤ P.length → (∀ k, k < i → (gp P k : Int) < x) → (∀ k, j ≤ k → k < P.length → x ≤ (gp P k : Int)) →
    ∃ r, r ≤ P.length ∧ (∀ k, k < r → (gp P k : Int) < x) ∧ (∀ k, r ≤ k → k < P.length → x ≤ (gp P k : Int)) ∧
      Evt fun n => ∀ m, d + 1 ≤ m → loopEv (L67_0 (ev Tryz.prog sg n) n) m [.int j, .int P.length, nats P, .int i, .int x] = some (.x 0, [.int P.length, nats P, .int r, .int x]) := by
  have hl := natsLen P
  intro d
  induction d with
  | zero =>
    intro i j h1 h2 h3 h4 h5
    have e : i = j := by omega
    subst e
    refine ⟨i, h3, h4, h5, Evt.all fun n m hm => ?_⟩
    obtain ⟨m, rfl⟩ : ∃ m', m = m' + 1 := ⟨m - 1, by omega⟩
    simp (disch := omega) [loopEv, L67_0, ltF]
  | succ d ih =>
    intro i j h1 h2 h3 h4 h5
    by_cases hij : i < j
    rotate_left
    · have e : i = j := by omega
      subst e
      refine ⟨i, h3, h4, h5, Evt.all fun n m hm => ?_⟩
      obtain ⟨m, rfl⟩ : ∃ m', m = m' + 1 := ⟨m - 1, by omega⟩
      simp (disch := omega) [loopEv, L67_0, ltF]
    have hmid := mid_eq (i := i) (j := j) (by omega)
    generalize hc : (i + j) / 2 = c at hmid
    have hmid2 : IntKind.i64.wrap (arith .shr .u64 (IntKind.u64.wrap ((i : Int) + (j : Int))) 1) = (c : Int) := by rw [← hmid, wrap64 (x := (i : Int) + j) (by omega) (by omega)]
    have hn := nth_gp (P := P) (i := c) (by omega)
    by_cases hlt : (gp P c : Int) < x
    · obtain ⟨r, r1, r2, r3, r4⟩ := ih (c + 1) j (by omega) (by omega) h3 (fun k hk => by
        by_cases e : k = c
        · subst e; exact hlt
        · have := gp_lt hs (i := k) (j := c) (by omega) (by omega)
          omega) h5
      refine ⟨r, r1, r2, r3, (lessI (gp P c) x).mp2 r4 fun n q1 q2 m hm => ?_⟩
      obtain ⟨m, rfl⟩ : ∃ m', m = m' + 1 := ⟨m - 1, by omega⟩
      rw [ltT hlt] at q1
      have hB : L67_0 (ev Tryz.prog sg n) n [.int j, .int P.length, nats P, .int i, .int x] = some (.n, [.int j, .int P.length, nats P, .int (c + 1 : Nat), .int x]) := by
        simp (disch := omega) [L67_0, ltT, geT, hmid2, hl, hn, q1, wrap64]
      simp only [loopEv, hB, thenN_n]
      exact q2 m (by omega)
    · obtain ⟨r, r1, r2, r3, r4⟩ := ih i c (by omega) (by omega) (by omega) h4 (fun k hk hk2 => by
        by_cases e : k = c
        · subst e; omega
        · have := gp_lt hs (i := c) (j := k) (by omega) hk2
          omega)
      refine ⟨r, r1, r2, r3, (lessI (gp P c) x).mp2 r4 fun n q1 q2 m hm => ?_⟩
      obtain ⟨m, rfl⟩ : ∃ m', m = m' + 1 := ⟨m - 1, by omega⟩
      rw [ltF (by omega)] at q1
      have hB : L67_0 (ev Tryz.prog sg n) n [.int j, .int P.length, nats P, .int i, .int x] = some (.n, [.int c, .int P.length, nats P, .int i, .int x]) := by
        simp (disch := omega) [L67_0, ltT, geT, hmid2, hl, hn, q1, wrap64]
      simp only [loopEv, hB, thenN_n]
      exact q2 m (by omega)
theorem bsI (P : List Nat) (x : Int) (hs : P.Pairwise (· < ·)) (hP : P.length ≤ 1048576) : ∃ r : Int, Rn 67 [nats P, .int x] [.int r, .bool (inP P x)] := by
  have hl := natsLen P
  obtain ⟨r, r1, r2, r3, r4⟩ := bsLoop P x hs hP P.length 0 P.length (by omega) (by omega) (by omega) (fun k hk => by omega) (fun k hk hk2 => by omega)
  refine ⟨r, ?_⟩
  by_cases hr : r < P.length
  rotate_left
  · have hb : inP P x = false := by
      rw [← Bool.not_eq_true, inP_iff]
      rintro ⟨p, hp, e⟩
      obtain ⟨i, hi, rfl⟩ := List.getElem_of_mem hp
      have := r2 i (by omega)
      simp [gp, List.getD_eq_getElem?_getD, hi] at this
      omega
    refine Is.of e67 (r4.mp2 (Evt.ge (P.length + 1)) fun n q1 q2 => ?_)
    have q1 := q1 n q2
    simp only [show ((0 : Nat) : Int) = 0 from rfl] at q1
    simp (disch := omega) [F67, hl, q1, ltF, hb, isB_unit]
  have hn := nth_gp hr
  by_cases he : (gp P r : Int) = x
  · have hb : inP P x = true := inP_iff.2 ⟨_, gp_mem hr, he⟩
    refine Is.of e67 (r4.mp2 (Evt.ge (P.length + 1)) fun n q1 q2 => ?_)
    have q1 := q1 n q2
    simp only [show ((0 : Nat) : Int) = 0 from rfl] at q1
    simp (disch := omega) [F67, hl, q1, ltT, geT, hn, eqT he, hb, isB_unit]
  · have hb : inP P x = false := by
      rw [← Bool.not_eq_true, inP_iff]
      rintro ⟨p, hp, e⟩
      obtain ⟨i, hi, rfl⟩ := List.getElem_of_mem hp
      have hi2 : gp P i = P[i] := by simp [gp, List.getD_eq_getElem?_getD, hi]
      rcases Nat.lt_trichotomy i r with h | h | h
      · have := r2 i h; omega
      · subst h; exact he (by rw [hi2]; exact e)
      · have h1 := gp_lt hs h hi
        have h2 := r3 r (Nat.le_refl _) hr
        omega
    refine Is.of e67 (r4.mp3 (Evt.ge (P.length + 1)) (nanI (gp P r)) fun n q1 q2 q3 => ?_)
    have q1 := q1 n q2
    simp only [show ((0 : Nat) : Int) = 0 from rfl] at q1
    simp (disch := omega) [F67, hl, q1, ltT, geT, hn, eqF he, hb, q3, isB_unit]
theorem isBlockI (P : List Nat) (w : Int) (hs : P.Pairwise (· < ·)) (hP : P.length ≤ 1048576) : Rn 47 [nats P, .int w] [.bool (eqI (w % 2) 0 && inP P (w / 2))] := by
  obtain ⟨r, hr⟩ := bsI P (w / 2) hs hP
  refine Is.of e47 ((wrefI w).mp3 hr (refI w) fun n q1 q2 q3 => ?_)
  cases h : eqI (w % 2) 0 <;> rw [h] at q3 <;> simp [F47, q1, q2, q3]
/-! ### A heap is right -/
theorem drop_take_nth {l : List PV} {a b k : Nat} (hk : k < b) : nth ((l.drop a).take b) k = nth l (a + k) := by
  unfold nth
  simp [List.getD_eq_getElem?_getD, List.getElem?_take, hk]
theorem kidsLen {W : List Int} {a b : Nat} (h : a + b ≤ W.length) : (((W.map PV.int).drop a).take b).length = b := by simp; omega
theorem kidsI {W : List Int} {half base next : Int} {p : Nat} (hp : p + 1 + mny (gw W p) ≤ W.length) (hl : W.length ≤ 1048576) : Rn 26 [heapV W half base next, .int p] [.list (((W.map PV.int).drop (p + 1)).take (mny (gw W p)))] := by
  have hn := nth_gw (W := W) (i := p) (by omega)
  have hm := mny_lt (gw W p)
  refine Is.of e26 ((hdrI (gw W p)).mp fun n q => ?_)
  simp (disch := omega) [F26, geT, ltT, leT, hn, q, wrap64]
  have e2 : ((p : Int) + 1 + (mny (gw W p) : Int)).toNat = p + 1 + mny (gw W p) := by omega
  rw [e2, Nat.add_sub_cancel_left]
theorem sel_and' (a : Bool) (x : PV) (b : Bool) (h : a = true → x = .bool b) : selB a x (.bool false) = .bool (a && b) := by
  cases a with
  | false => rfl
  | true => rw [h rfl]; rfl
theorem bad_there (P : List Nat) (w : Int) : there P w = (!eqI (w % 2) 0 && okW (w / 2) || eqI (w % 2) 0 && inP P (w / 2)) := rfl
theorem kidLoopI {W : List Int} {half base next : Int} (h : Pre W half base next) {P : List Nat} (hs : P.Pairwise (· < ·)) (hP : P.length ≤ 1048576) {p : Nat} (hp : p + 1 + mny (gw W p) ≤ W.length) (a b : PV) :
    Evt fun n => loopEv (L17_0 (ev Tryz.prog sg n) n) n [.int 0, .int (mny (gw W p)), .list (((W.map PV.int).drop (p + 1)).take (mny (gw W p))), a, b, nats P, heapV W half base next] = if kidB W P p then some (.x 2, [a, b, nats P, heapV W half base next]) else some (.r, [.bool false]) := by
  have hr := h.rng
  have hm := mny_lt (gw W p)
  have hkl := kidsLen (W := W) (a := p + 1) (b := mny (gw W p)) hp
  have hnth : ∀ i, i < mny (gw W p) → nth (((W.map PV.int).drop (p + 1)).take (mny (gw W p))) i = .int (gw W (p + 1 + i)) := fun i hi => by rw [drop_take_nth hi, nth_gw (by omega)]
  refine all_loop (body := fun n => L17_0 (ev Tryz.prog sg n) n) (pay := fun i => [.int i, .int (mny (gw W p)), .list (((W.map PV.int).drop (p + 1)).take (mny (gw W p))), a, b, nats P, heapV W half base next]) (c := fun k => there P (gw W (p + 1 + k))) (e1 := .x 2) (r1 := [a, b, nats P, heapV W half base next]) (e2 := .r) (r2 := [.bool false]) (mny (gw W p)) (by simp) (by simp) (fun i hi hc => ?_) (fun i hi hc => ?_) (Evt.all fun n => ?_)
  · refine (isIntI (gw W (p + 1 + i))).mp2 (isBlockI P (gw W (p + 1 + i)) hs hP) fun n q1 q2 => ?_
    rw [bad_there] at hc
    have hn := hnth i hi
    cases c1 : (!eqI (gw W (p + 1 + i) % 2) 0 && okW (gw W (p + 1 + i) / 2)) <;> cases c2 : (eqI (gw W (p + 1 + i) % 2) 0 && inP P (gw W (p + 1 + i) / 2)) <;> rw [c1] at q1 hc <;> rw [c2] at q2 hc <;> simp at hc <;> simp (disch := omega) [L17_0, ltT, geT, hkl, hn, q1, q2, wrap64]
  · refine (isIntI (gw W (p + 1 + i))).mp2 (isBlockI P (gw W (p + 1 + i)) hs hP) fun n q1 q2 => ?_
    rw [bad_there] at hc
    have hn := hnth i hi
    cases c1 : (!eqI (gw W (p + 1 + i) % 2) 0 && okW (gw W (p + 1 + i) / 2)) <;> cases c2 : (eqI (gw W (p + 1 + i) % 2) 0 && inP P (gw W (p + 1 + i) / 2)) <;> rw [c1] at q1 hc <;> rw [c2] at q2 hc <;> simp at hc <;> simp (disch := omega) [L17_0, ltT, geT, hkl, hn, q1, q2, wrap64]
  · simp (disch := omega) [L17_0, ltF]
theorem plcs_sorted (W : List Int) (base next : Int) : (plcs W base next).Pairwise (· < ·) := plc_sorted
theorem plcs_len (W : List Int) (base next : Int) : (plcs W base next).length ≤ 3000 := plc_len
theorem heapI {W : List Int} {half base next : Int} (hW : W.length ≤ 1048576) : Rn 17 [heapV W half base next] [.bool (heapB W half base next)] := by
  have hb := blocksI (half := half) (base := base) (next := next) hW
  cases hc : (preB W half base next && plcsB W base next) with
  | false =>
    rw [hc] at hb
    have e : heapB W half base next = false := by
      unfold heapB
      rw [← Bool.and_assoc, hc]; rfl
    rw [e]
    exact Is.of e17 (hb.mp fun n q => by simp at q; simp [F17, q])
  | true =>
    rw [hc] at hb
    simp only [if_true] at hb
    have e : heapB W half base next = (List.range (plcs W base next).length).all fun i => kidB W (plcs W base next) (gp (plcs W base next) i) := by
      unfold heapB
      rw [← Bool.and_assoc, hc]; rfl
    rw [e]
    simp only [Bool.and_eq_true] at hc
    have h := pre_of hc.1
    have hr := h.rng
    have hs := plcs_sorted W base next
    have hP := plcs_len W base next
    have hin : ∀ p, p ∈ plcs W base next → p + 1 + mny (gw W p) ≤ W.length := fun p hp => (plcs_in h hp).1
    generalize plcs W base next = P at *
    have hl := natsLen P
    have h1 := all_loop (body := fun n => L17_1 (ev Tryz.prog sg n) n) (pay := fun i => [.int i, .int P.length, nats P, heapV W half base next]) (c := fun i => kidB W P (gp P i)) (e1 := .x 0) (r1 := []) (e2 := .r) (r2 := [.bool false]) P.length (by simp) (by simp) (fun i hi hc => ?_) (fun i hi hc => ?_) (Evt.all fun n => ?_)
    · refine Is.of e17 (hb.mp2 h1 fun n q1 q2 => ?_)
      simp only [show ((0 : Nat) : Int) = 0 from rfl] at q2
      cases hk : (List.range P.length).all fun i => kidB W P (gp P i) <;> rw [hk] at q2 <;> simp at q2 <;> simp [F17, q1, q2]
    · have hn := nth_gp hi
      have hm := hin _ (gp_mem hi)
      refine (kidsI (half := half) (base := base) (next := next) hm hW).mp2 (kidLoopI h hs (by omega) hm (.int i) (.int P.length)) fun n q1 q2 => ?_
      have hkl := kidsLen (W := W) (a := gp P i + 1) (b := mny (gw W (gp P i))) hm
      rw [hc] at q2
      simp only [if_true] at q2
      simp (disch := omega) [L17_1, ltT, geT, hl, hn, q1, hkl, q2, wrap64]
    · have hn := nth_gp hi
      have hm := hin _ (gp_mem hi)
      refine (kidsI (half := half) (base := base) (next := next) hm hW).mp2 (kidLoopI h hs (by omega) hm (.int i) (.int P.length)) fun n q1 q2 => ?_
      have hkl := kidsLen (W := W) (a := gp P i + 1) (b := mny (gw W (gp P i))) hm
      rw [hc] at q2
      simp only [Bool.false_eq_true, if_false] at q2
      simp (disch := omega) [L17_1, ltT, geT, hl, hn, q1, hkl, q2, wrap64]
    · simp (disch := omega) [L17_1, ltF]
theorem kidLoopS {W : List Int} {half base next : Int} (h : Pre W half base next) {P : List Nat} (hP : P.length ≤ 1048576) {i0 : Nat} (hi0 : i0 < P.length) (hp : gp P i0 + 1 + mny (gw W (gp P i0)) ≤ W.length) :
    Evt fun n => loopEv (L55_0 (ev Tryz.prog sg n) n) n [.int 1, .int (mny (gw W (gp P i0))), .int i0, nats P, heapV W half base next] = if kidB W P (gp P i0) then some (.x 2, [.int i0, nats P, heapV W half base next]) else some (.r, [.bool false]) := by
  have hr := h.rng
  have hm := mny_lt (gw W (gp P i0))
  have hl := natsLen P
  have hn0 := nth_gp hi0
  have hnth : ∀ i, i < mny (gw W (gp P i0)) → nth (W.map PV.int) (gp P i0 + 1 + i) = .int (gw W (gp P i0 + 1 + i)) := fun i hi => nth_gw (by omega)
  have := all_loop (body := fun n => L55_0 (ev Tryz.prog sg n) n) (pay := fun i => [.int ((i + 1 : Nat) : Int), .int (mny (gw W (gp P i0))), .int i0, nats P, heapV W half base next]) (c := fun k => there P (gw W (gp P i0 + 1 + k))) (e1 := .x 2) (r1 := [.int i0, nats P, heapV W half base next]) (e2 := .r) (r2 := [.bool false]) (mny (gw W (gp P i0))) (by simp) (by simp) (fun i hi hc => ?_) (fun i hi hc => ?_) (Evt.all fun n => ?_)
  · exact this
  · refine (thereS P (gw W (gp P i0 + 1 + i)) hP).mp fun n q1 => ?_
    have hn := hnth i hi
    have e1 : ((gp P i0 : Int) + ((i : Int) + 1)).toNat = gp P i0 + 1 + i := by omega
    rw [hc] at q1
    simp (disch := omega) [L55_0, leT, ltT, geT, hl, hn0, wrap64, e1, hn, q1]
  · refine (thereS P (gw W (gp P i0 + 1 + i)) hP).mp fun n q1 => ?_
    have hn := hnth i hi
    have e1 : ((gp P i0 : Int) + ((i : Int) + 1)).toNat = gp P i0 + 1 + i := by omega
    rw [hc] at q1
    simp (disch := omega) [L55_0, leT, ltT, geT, hl, hn0, wrap64, e1, hn, q1]
  · simp (disch := omega) [L55_0, leF]
theorem heapS {W : List Int} {half base next : Int} (hW : W.length ≤ 1048576) (hW2 : ∀ w, w ∈ W → w < 9223372036854775808) : Rn 55 [heapV W half base next] [.bool (heapB W half base next)] := by
  have hl := wordsLen W
  have r1 := is51 half 1 3000
  by_cases c1 : okR half 1 3000 = true
  rotate_left
  · have c1 : okR half 1 3000 = false := by simpa using c1
    rw [c1] at r1
    refine Is.of e55 (r1.mp fun n q1 => ?_)
    simp [F55, q1, heapB, preB, c1]
  have hh := okR_in c1
  rw [c1] at r1
  have w1 : IntKind.i64.wrap (2 * half) = 2 * half := wrap64 (by omega) (by omega)
  by_cases c2 : (W.length : Int) = 2 * half
  rotate_left
  · refine Is.of e55 (r1.mp fun n q1 => ?_)
    simp [F55, q1, heapB, preB, c1, w1, neT c2, eqF c2]
  by_cases c3 : base = 0 ∨ base = half
  rotate_left
  · have c30 : base ≠ 0 := fun e => c3 (.inl e)
    have c31 : base ≠ half := fun e => c3 (.inr e)
    refine Is.of e55 (r1.mp fun n q1 => ?_)
    simp [F55, q1, heapB, preB, c1, w1, neF c2, eqT c2, neT c30, neT c31, eqF c30, eqF c31]
  have w2 : IntKind.i64.wrap (base + half) = base + half := wrap64 (by omega) (by omega)
  have c5 : (eqI base 0 || eqI base half) = true := by
    rcases c3 with e | e
    · rw [eqT e]; rfl
    · rw [eqT e, Bool.or_true]
  have r2 := is51 next base (base + half)
  have hv : ∀ n, ev Tryz.prog sg n 75 [.int half, .int 1, .int 3000] = some [.bool true] → ev Tryz.prog sg n 75 [.int next, .int base, .int (base + half)] = some [.bool (okR next base (base + half))] →
      F55 (ev Tryz.prog sg n) n [heapV W half base next] = if okR next base (base + half) then ((ev Tryz.prog sg n 56 [heapV W half base next]).bind fun r7 => (iff (!(nth r7 1).toBool) (some [(PV.bool false)]) (thenN (thenE (loopEv (L55_1 (ev Tryz.prog sg n) n) n [(PV.int (0 : Int)), (nth r7 0), heapV W half base next]) (passB 0)) (fun p13 => (some [(PV.bool true)])) (retE fun q14 => [(nth q14 0)])))) else some [.bool false] := fun n q1 q2 => by
    rcases c3 with e | e
    · cases hb : okR next base (base + half) <;> rw [hb] at q2 <;> simp [F55, q1, q2, w1, w2, neF c2, neF e]
    · by_cases e0 : base = 0
      · cases hb : okR next base (base + half) <;> rw [hb] at q2 <;> simp [F55, q1, q2, w1, w2, neF c2, neF e0]
      · cases hb : okR next base (base + half) <;> rw [hb] at q2 <;> simp [F55, q1, q2, w1, w2, neF c2, neF e, neT e0]
  cases hn : okR next base (base + half) with
  | false =>
    rw [hn] at r2
    refine Is.of e55 (r1.mp2 r2 fun n q1 q2 => ?_)
    rw [hv n q1 (by rw [hn]; exact q2), hn]
    simp [heapB, preB, c1, eqT c2, c5, hn]
  | true =>
    have hp : preB W half base next = true := by simp [preB, c1, eqT c2, c5, hn]
    have h := pre_of hp
    have hr := h.rng
    rw [hn] at r2
    have hpl := placesS h hW2
    have e : heapB W half base next = (plcsB W base next && (List.range (plcs W base next).length).all fun i => kidB W (plcs W base next) (gp (plcs W base next) i)) := by
      unfold heapB
      rw [hp]; rfl
    rw [e]
    have hP := plcs_len W base next
    have hin : ∀ p, p ∈ plcs W base next → p + 1 + mny (gw W p) ≤ W.length := fun p hp => (plcs_in h hp).1
    generalize plcs W base next = P at *
    cases hb : plcsB W base next with
    | false =>
      rw [hb] at hpl
      refine Is.of e55 (r1.mp3 r2 hpl fun n q1 q2 q3 => ?_)
      rw [hv n q1 (by rw [hn]; exact q2), hn, if_pos rfl, q3]
      simp
    | true =>
      rw [hb] at hpl
      have hl := natsLen P
      have h1 := all_loop (body := fun n => L55_1 (ev Tryz.prog sg n) n) (pay := fun i => [.int i, nats P, heapV W half base next]) (c := fun i => kidB W P (gp P i)) (e1 := .x 0) (r1 := []) (e2 := .r) (r2 := [.bool false]) P.length (by simp) (by simp) (fun i hi hc => ?_) (fun i hi hc => ?_) (Evt.all fun n => ?_)
      · refine Is.of e55 (r1.mp4 r2 hpl h1 fun n q1 q2 q3 q4 => ?_)
        rw [hv n q1 (by rw [hn]; exact q2), hn, if_pos rfl, q3]
        simp only [show ((0 : Nat) : Int) = 0 from rfl] at q4
        cases hk : (List.range P.length).all fun i => kidB W P (gp P i) <;> rw [hk] at q4 <;> simp at q4 <;> simp [q4]
      · have hn := nth_gp hi
        have hm := hin _ (gp_mem hi)
        have hn1 := nth_gw (W := W) (i := gp P i) (by omega)
        refine (ofS (gw W (gp P i))).mp2 (kidLoopS h (by omega) hi hm) fun n q1 q2 => ?_
        rw [hc] at q2
        simp only [if_true] at q2
        simp (disch := omega) [L55_1, ltT, geT, hl, hn, hn1, q1, q2, wrap64]
      · have hn := nth_gp hi
        have hm := hin _ (gp_mem hi)
        have hn1 := nth_gw (W := W) (i := gp P i) (by omega)
        refine (ofS (gw W (gp P i))).mp2 (kidLoopS h (by omega) hi hm) fun n q1 q2 => ?_
        rw [hc] at q2
        simp only [Bool.false_eq_true, if_false] at q2
        simp (disch := omega) [L55_1, ltT, geT, hl, hn, hn1, q1, q2, wrap64]
      · simp (disch := omega) [L55_1, ltF]
end Go.Proofs.YthmhgnnaihkjaaaGreatDoor.GFnMoved
