/- What functions of the program and of the reference come to, for the law FnExactVmOk. Each under the conditions that it names. -/
import Derived.Test.YtijgokehlicmnaaBFnExactVmOk
namespace Go.Proofs.Ytijgokehlicmnaa.GFnExactVmOk
open Go Go.Rsc Go.Proofs.Ytijgokehlicmnaa
set_option maxRecDepth 100000
set_option linter.unusedVariables false
set_option linter.unusedSimpArgs false
/-! ### Words of a heap -/
theorem isB_unit (b : Bool) : PV.isB .unit b = false := rfl
theorem and1 (x : Int) : arith .and .i64 x 1 = x % 2 := by
  have e2 : (BitVec.ofInt 64 (1 : Int)).toNat = 2 ^ 1 - 1 := by decide
  show IntKind.i64.wrap ((BitVec.ofInt 64 x &&& BitVec.ofInt 64 (1 : Int)).toNat : Int) = _
  rw [BitVec.toNat_and, e2, Nat.and_two_pow_sub_one_eq_mod _ 1, BitVec.toNat_ofInt, wrap64 (by omega) (by omega)]
  omega
theorem and63 (x : Int) : arith .and .i64 x 63 = x % 64 := by
  have e2 : (BitVec.ofInt 64 (63 : Int)).toNat = 2 ^ 6 - 1 := by decide
  show IntKind.i64.wrap ((BitVec.ofInt 64 x &&& BitVec.ofInt 64 (63 : Int)).toNat : Int) = _
  rw [BitVec.toNat_and, e2, Nat.and_two_pow_sub_one_eq_mod _ 6, BitVec.toNat_ofInt, wrap64 (by omega) (by omega)]
  omega
theorem shr1 (x : Int) : arith .shr .i64 x 1 = x / 2 := by
  show x.fdiv (2 ^ 1) = _
  rw [Int.fdiv_eq_ediv_of_nonneg _ (by decide)]
  rfl
theorem shr7I (x : Int) : arith .shr .i64 x 7 = x / 128 := by
  show x.fdiv (2 ^ 7) = _
  rw [Int.fdiv_eq_ediv_of_nonneg _ (by decide)]
  rfl
theorem quo64 {x : Int} (h : 0 ≤ x) (h2 : x < 9223372036854775808) : arith .quo .i64 x 64 = x / 64 := by
  show IntKind.i64.wrap (x.tdiv 64) = _
  rw [Int.tdiv_eq_ediv_of_nonneg h]
  exact wrap64 (by omega) (by omega)
def gw (W : List Int) (i : Nat) : Int := W.getD i 0
theorem nth_gw {W : List Int} {i : Nat} (h : i < W.length) : nth (W.map PV.int) i = .int (gw W i) := by
  unfold nth gw
  simp [List.getD_eq_getElem?_getD, h]
abbrev words (W : List Int) : PV := .list (W.map PV.int)
abbrev heapV (W : List Int) (half base next : Int) : PV := .agg [words W, .int half, .int base, .int next]
theorem words_of : ∀ {l : List PV}, (∀ q, q ∈ l → ∃ x : Int, q = .int x) → ∃ W : List Int, l = W.map PV.int
  | [], _ => ⟨[], rfl⟩
  | x :: l, h => by
    obtain ⟨n, rfl⟩ := h x (by simp)
    obtain ⟨W, rfl⟩ := words_of (l := l) fun q hq => h q (by simp [hq])
    exact ⟨n :: W, rfl⟩
def okHd (w : Int) : Bool := !eqI (w % 2) 0 && (geI (w / 2) 0 && (leI (w / 2 / 128) 3000 && leI (w / 2 / 2 % 64) 20))
theorem okHd_out {w : Int} (h : okHd w = true) : w % 2 ≠ 0 ∧ 0 ≤ w / 2 ∧ w / 2 / 128 ≤ 3000 ∧ w / 2 / 2 % 64 ≤ 20 := by
  simpa [okHd, eqI, geI, leI] using h
theorem neI_not (x y : Int) : neI x y = !eqI x y := by simp [neI, eqI, bne]
theorem gtI_not (x y : Int) : gtI x y = !leI x y := by
  by_cases h : x ≤ y
  · rw [gtF h, leT h]; rfl
  · rw [gtT (by omega), leF (by omega)]; rfl
def mny (w : Int) : Nat := (w / 2 / 2 % 64).toNat
theorem mny_eq (w : Int) : (mny w : Int) = w / 2 / 2 % 64 := by unfold mny; omega
theorem mny_lt (w : Int) : mny w < 64 := by unfold mny; omega
/-- The places of blocks from a place on, as far as they are right. -/
def plc (W : List Int) (next : Nat) : Nat → Nat → Bool × List Nat
  | 0, _ => (true, [])
  | k + 1, at_ => if at_ < next then
      if okHd (gw W at_) && decide (at_ + 1 + mny (gw W at_) ≤ next) then ((plc W next k (at_ + 1 + mny (gw W at_))).1, at_ :: (plc W next k (at_ + 1 + mny (gw W at_))).2) else (false, [])
    else (true, [])
abbrev nats (l : List Nat) : PV := .list (l.map fun p : Nat => PV.int (p : Int))
theorem plc_stop {W : List Int} {next k at_ : Nat} (h : next ≤ at_) : plc W next k at_ = (true, []) := by
  cases k with
  | zero => rfl
  | succ k => simp [plc, Nat.not_lt.2 h]
theorem plc_in {W : List Int} {next : Nat} : ∀ {k at_ : Nat}, ∀ p, p ∈ (plc W next k at_).2 → at_ ≤ p ∧ p + 1 + mny (gw W p) ≤ next ∧ okHd (gw W p) = true
  | 0, _, p, h => by simp [plc] at h
  | k + 1, at_, p, h => by
    simp only [plc] at h
    split at h
    · split at h
      · rename_i h1 h2
        simp only [Bool.and_eq_true, decide_eq_true_eq] at h2
        rcases List.mem_cons.1 h with e | e
        · subst e; exact ⟨Nat.le_refl _, h2.2, h2.1⟩
        · have := plc_in p e
          exact ⟨by omega, this.2⟩
      · simp at h
    · simp at h
theorem plc_sorted {W : List Int} {next : Nat} : ∀ {k at_ : Nat}, (plc W next k at_).2.Pairwise (· < ·)
  | 0, _ => by simp [plc]
  | k + 1, at_ => by
    simp only [plc]
    split
    · split
      · refine List.pairwise_cons.2 ⟨fun p hp => ?_, plc_sorted⟩
        have := plc_in p hp
        omega
      · simp
    · simp
theorem plc_len {W : List Int} {next : Nat} : ∀ {k at_ : Nat}, (plc W next k at_).2.length ≤ k
  | 0, _ => by simp [plc]
  | k + 1, at_ => by
    simp only [plc]
    split
    · split
      · have := plc_len (W := W) (next := next) (k := k) (at_ := at_ + 1 + mny (gw W at_))
        simp
        omega
      · simp
    · simp
/-- A word that may stand in a heap: an int word of a word, or the place of a block. -/
def inP (P : List Nat) (x : Int) : Bool := P.any fun p : Nat => eqI (p : Int) x
theorem inP_iff {P : List Nat} {x : Int} : inP P x = true ↔ ∃ p ∈ P, (p : Int) = x := by simp [inP, eqI]
def there (P : List Nat) (w : Int) : Bool := !eqI (w % 2) 0 && okW (w / 2) || eqI (w % 2) 0 && inP P (w / 2)
def preB (W : List Int) (half base next : Int) : Bool := okR half 1 3000 && (eqI W.length (2 * half) && ((eqI base 0 || eqI base half) && okR next base (base + half)))
def plcs (W : List Int) (base next : Int) : List Nat := (plc W next.toNat 3000 base.toNat).2
def plcsB (W : List Int) (base next : Int) : Bool := (plc W next.toNat 3000 base.toNat).1
def kidB (W : List Int) (P : List Nat) (p : Nat) : Bool := (List.range (mny (gw W p))).all fun k => there P (gw W (p + 1 + k))
def gp (P : List Nat) (i : Nat) : Nat := P.getD i 0
theorem nth_gp {P : List Nat} {i : Nat} (h : i < P.length) : nth (P.map fun p : Nat => PV.int (p : Int)) i = .int (gp P i) := by
  unfold nth gp
  simp [List.getD_eq_getElem?_getD, h]
theorem gp_mem {P : List Nat} {i : Nat} (h : i < P.length) : gp P i ∈ P := by
  unfold gp
  simp [List.getD_eq_getElem?_getD, h]
def heapB (W : List Int) (half base next : Int) : Bool := preB W half base next && (plcsB W base next && (List.range (plcs W base next).length).all fun i => kidB W (plcs W base next) (gp (plcs W base next) i))
structure Pre (W : List Int) (half base next : Int) : Prop where
  h1 : 1 ≤ half ∧ half ≤ 3000
  h2 : (W.length : Int) = 2 * half
  h3 : base = 0 ∨ base = half
  h4 : base ≤ next ∧ next ≤ base + half
theorem pre_of {W : List Int} {half base next : Int} (h : preB W half base next = true) : Pre W half base next := by
  simp only [preB, Bool.and_eq_true, Bool.or_eq_true, eqI, beq_iff_eq] at h
  exact ⟨okR_in h.1, h.2.1, h.2.2.1, okR_in h.2.2.2⟩
theorem Pre.rng {W : List Int} {half base next : Int} (h : Pre W half base next) : W.length ≤ 6000 ∧ 0 ≤ base ∧ base.toNat ≤ next.toNat ∧ next.toNat ≤ W.length ∧ next.toNat ≤ base.toNat + 3000 ∧ (base.toNat : Int) = base ∧ (next.toNat : Int) = next := by
  obtain ⟨h1, h2, h3, h4⟩ := h
  omega
theorem plcs_in {W : List Int} {half base next : Int} (h : Pre W half base next) {p : Nat} (hp : p ∈ plcs W base next) : p + 1 + mny (gw W p) ≤ W.length ∧ okHd (gw W p) = true := by
  have h1 := plc_in p hp
  have h2 := h.rng
  exact ⟨by omega, h1.2.2⟩
/-! ### Words and headers -/
theorem refI (w : Int) : Rn 94 [.int w] [.bool (eqI (w % 2) 0)] := Is.of e94 (Evt.all fun n => by simp [F94, and1])
theorem refS (w : Int) : Rn 156 [.int w] [.bool (eqI (w % 2) 0)] := Is.of e156 (Evt.all fun n => by simp [F156, and1])
theorem wrefI (w : Int) : Rn 96 [.int w] [.int (w / 2)] := Is.of e96 (Evt.all fun n => by simp [F96, shr1, geI])
theorem wintI (w : Int) : Rn 158 [.int w] [.int (w / 2)] := Is.of e158 (Evt.all fun n => by simp [F158, shr1, geI])
theorem wrefS (w : Int) : Rn 111 [.int w] [.int (w / 2)] := Is.of e111 (Evt.all fun n => by simp [F111, shr1, geI])
theorem wintS (w : Int) : Rn 157 [.int w] [.int (w / 2)] := Is.of e157 (Evt.all fun n => by simp [F157, shr1, geI])
theorem isIntI (w : Int) : Rn 107 [.int w] [.bool (!eqI (w % 2) 0 && okW (w / 2))] := by
  refine Is.of e107 ((refI w).mp3 (wintI w) (is102 (w / 2)) fun n q1 q2 q3 => ?_)
  cases h : eqI (w % 2) 0 <;> rw [h] at q1 <;> simp [F107, q1, q2, q3]
theorem hdrI (w : Int) : Rn 163 [.int w] [.bool (eqI (w / 2 % 2) 1), .int (w / 2 / 128), .int (mny w), .bool (okHd w)] := by
  refine Is.of e163 ((refI w).mp2 (wintI w) fun n q1 q2 => ?_)
  rw [mny_eq]
  cases h1 : eqI (w % 2) 0 <;> cases h2 : geI (w / 2) 0 <;> cases h3 : leI (w / 2 / 128) 3000 <;> rw [h1] at q1 <;>
    simp [F163, q1, q2, and1, and63, shr1, shr7I, okHd, h1, h2, h3, geT] <;> simp [leI, decide_eq_decide]
def tagS (w : Int) : Int := arith .quo .i64 (w / 2 / 2) 64
theorem tagS_eq {w : Int} (h : 0 ≤ w) (h2 : w < 9223372036854775808) : tagS w = w / 2 / 128 := by
  unfold tagS
  rw [quo64 (by omega) (by omega)]
  omega
theorem ofS (w : Int) : Rn 109 [.int w] [.bool (eqI (w / 2 % 2) 1), .int (tagS w), .int (mny w)] := by
  refine Is.of e109 (Evt.all fun n => ?_)
  rw [mny_eq]
  simp [F109, and1, and63, shr1, geT, neT, tagS]
/-! ### The places of blocks -/
theorem natsLen (out : List Nat) : (out.map fun p : Nat => PV.int (p : Int)).length = out.length := List.length_map ..
theorem natsSnoc (out : List Nat) (p : Nat) : (out.map fun p : Nat => PV.int (p : Int)) ++ [PV.int (p : Int)] = (out ++ [p]).map fun p : Nat => PV.int (p : Int) := by simp
theorem wordsLen (W : List Int) : (W.map PV.int).length = W.length := List.length_map ..
theorem blkI {W : List Int} {half base next : Int} (h : Pre W half base next) : ∀ (k at_ : Nat) (out : List Nat), next.toNat ≤ at_ + k → at_ ≤ next.toNat → out.length + k ≤ 10000 →
    Evt fun n => ∀ m, k + 1 ≤ m → loopEv (L106_0 (ev Try.prog sg n) n) m [.int at_, nats out, heapV W half base next] = if (plc W next.toNat k at_).1 then some (.x 0, [nats (out ++ (plc W next.toNat k at_).2)]) else some (.r, [.list [], .bool false]) := by
  have hr := h.rng
  have stop : ∀ (at_ : Nat) (out : List Nat), next.toNat ≤ at_ → ∀ n, L106_0 (ev Try.prog sg n) n [.int at_, nats out, heapV W half base next] = some (.x 0, [nats out]) := fun at_ out ha n => by
    simp (disch := omega) [L106_0, ltF]
  intro k
  induction k with
  | zero =>
    intro at_ out h1 h2 h3
    refine Evt.all fun n m hm => ?_
    obtain ⟨m, rfl⟩ : ∃ m', m = m' + 1 := ⟨m - 1, by omega⟩
    simp [loopEv, stop at_ out (by omega) n, plc]
  | succ k ih =>
    intro at_ out h1 h2 h3
    by_cases hlt : at_ < next.toNat
    rotate_left
    · refine Evt.all fun n m hm => ?_
      obtain ⟨m, rfl⟩ : ∃ m', m = m' + 1 := ⟨m - 1, by omega⟩
      simp [loopEv, stop at_ out (by omega) n, plc_stop (Nat.le_of_not_lt hlt)]
    have hnth := nth_gw (W := W) (i := at_) (by omega)
    have hm := mny_lt (gw W at_)
    have hl := natsLen out
    by_cases hc : (okHd (gw W at_) && decide (at_ + 1 + mny (gw W at_) ≤ next.toNat)) = true
    · simp only [Bool.and_eq_true, decide_eq_true_eq] at hc
      refine (hdrI (gw W at_)).mp2 (ih (at_ + 1 + mny (gw W at_)) (out ++ [at_]) (by omega) (by omega) (by simp; omega)) fun n q1 q2 m hm2 => ?_
      obtain ⟨m, rfl⟩ : ∃ m', m = m' + 1 := ⟨m - 1, by omega⟩
      rw [hc.1] at q1
      have hB : L106_0 (ev Try.prog sg n) n [.int at_, nats out, heapV W half base next] = some (.n, [.int (at_ + 1 + mny (gw W at_) : Nat), nats (out ++ [at_]), heapV W half base next]) := by
        simp (disch := omega) [L106_0, ltT, geT, hnth, q1, wrap64, gtF, leNT, hl]
        omega
      simp only [loopEv, hB, thenN_n]
      rw [q2 m (by omega)]
      simp [plc, hlt, hc.1, hc.2]
    · have hp : plc W next.toNat (k + 1) at_ = (false, []) := by simp [plc, hlt, hc]
      refine (hdrI (gw W at_)).mp fun n q1 m hm2 => ?_
      obtain ⟨m, rfl⟩ : ∃ m', m = m' + 1 := ⟨m - 1, by omega⟩
      have hB : L106_0 (ev Try.prog sg n) n [.int at_, nats out, heapV W half base next] = some (.r, [.list [], .bool false]) := by
        cases ho : okHd (gw W at_) with
        | false =>
          rw [ho] at q1
          simp (disch := omega) [L106_0, ltT, geT, hnth, q1]
        | true =>
          rw [ho] at q1 hc
          simp at hc
          simp (disch := omega) [L106_0, ltT, geT, hnth, q1, wrap64, gtT]
      simp [loopEv, hB, hp]
theorem blkS {W : List Int} {half base next : Int} (h : Pre W half base next) (hW : ∀ w, w ∈ W → w < 9223372036854775808) : ∀ (k at_ : Nat) (out : List Nat), next.toNat ≤ at_ + k → at_ ≤ next.toNat → out.length + k ≤ 10000 →
    Evt fun n => ∀ m, k + 1 ≤ m → loopEv (L79_0 (ev Try.prog sg n) n) m [.int at_, nats out, heapV W half base next] = if (plc W next.toNat k at_).1 then some (.x 0, [nats (out ++ (plc W next.toNat k at_).2)]) else some (.r, [nats (out ++ (plc W next.toNat k at_).2), .bool false]) := by
  have hr := h.rng
  have stop : ∀ (at_ : Nat) (out : List Nat), next.toNat ≤ at_ → ∀ n, L79_0 (ev Try.prog sg n) n [.int at_, nats out, heapV W half base next] = some (.x 0, [nats out]) := fun at_ out ha n => by
    simp (disch := omega) [L79_0, ltF]
  intro k
  induction k with
  | zero =>
    intro at_ out h1 h2 h3
    refine Evt.all fun n m hm => ?_
    obtain ⟨m, rfl⟩ : ∃ m', m = m' + 1 := ⟨m - 1, by omega⟩
    simp [loopEv, stop at_ out (by omega) n, plc]
  | succ k ih =>
    intro at_ out h1 h2 h3
    by_cases hlt : at_ < next.toNat
    rotate_left
    · refine Evt.all fun n m hm => ?_
      obtain ⟨m, rfl⟩ : ∃ m', m = m' + 1 := ⟨m - 1, by omega⟩
      simp [loopEv, stop at_ out (by omega) n, plc_stop (Nat.le_of_not_lt hlt)]
    have hnth := nth_gw (W := W) (i := at_) (by omega)
    have hm := mny_lt (gw W at_)
    have hme := mny_eq (gw W at_)
    have hl := natsLen out
    have hw : gw W at_ < 9223372036854775808 := hW _ (by unfold gw; simp [List.getD_eq_getElem?_getD, show at_ < W.length by omega])
    generalize hwv : gw W at_ = w at *
    by_cases hc : (okHd w && decide (at_ + 1 + mny w ≤ next.toNat)) = true
    · simp only [Bool.and_eq_true, decide_eq_true_eq] at hc
      obtain ⟨o1, o2, o3, o4⟩ := okHd_out hc.1
      have ht := tagS_eq (w := w) (by omega) hw
      refine (ofS w).mp3 (refS w) (ih (at_ + 1 + mny w) (out ++ [at_]) (by omega) (by omega) (by simp; omega)) fun n q1 q3 q2 m hm2 => ?_
      obtain ⟨m, rfl⟩ : ∃ m', m = m' + 1 := ⟨m - 1, by omega⟩
      rw [eqF o1] at q3
      have hB : L79_0 (ev Try.prog sg n) n [.int at_, nats out, heapV W half base next] = some (.n, [.int (at_ + 1 + mny w : Nat), nats (out ++ [at_]), heapV W half base next]) := by
        simp (disch := omega) [L79_0, ltT, ltF, geT, hnth, q1, q3, wrap64, gtF, geF, leNT, hl, ht]
        try omega
      simp only [loopEv, hB, thenN_n]
      rw [q2 m (by omega)]
      simp [plc, hlt, hc.1, hc.2, hwv]
    · have hp : plc W next.toNat (k + 1) at_ = (false, []) := by simp [plc, hlt, hc, hwv]
      refine (ofS w).mp2 (refS w) fun n q1 q3 m hm2 => ?_
      obtain ⟨m, rfl⟩ : ∃ m', m = m' + 1 := ⟨m - 1, by omega⟩
      have hB : L79_0 (ev Try.prog sg n) n [.int at_, nats out, heapV W half base next] = some (.r, [nats out, .bool false]) := by
        by_cases hn : w < 0
        · simp (disch := omega) [L79_0, ltT, geT, hnth, q1]
        have ht := tagS_eq (w := w) (by omega) hw
        by_cases he : w % 2 = 0
        · rw [eqT he] at q3
          simp (disch := omega) [L79_0, ltT, ltF, geT, hnth, q1, q3]
        rw [eqF he] at q3
        by_cases h3 : w / 2 / 128 ≤ 3000
        rotate_left
        · simp (disch := omega) [L79_0, ltT, ltF, geT, hnth, q1, q3, ht, gtT]
        by_cases h4 : (mny w : Int) ≤ 20
        rotate_left
        · simp (disch := omega) [L79_0, ltT, ltF, geT, hnth, q1, q3, ht, gtT, gtF]
        have ho : okHd w = true := by
          unfold okHd
          rw [eqF he, geT (by omega), leT h3, leT (by omega)]; rfl
        rw [ho] at hc
        simp at hc
        simp (disch := omega) [L79_0, ltT, ltF, geT, hnth, q1, q3, ht, gtF, wrap64]
      simp [loopEv, hB, hp]
end Go.Proofs.Ytijgokehlicmnaa.GFnExactVmOk
