/- Plain lemmas on whole numbers, lists and rounds that the proofs of this seat share. No conditions beyond those each lemma names. -/
import Derived.Test.YtdpnebdepjdogaaVFnExactAllocMore
import Derived.Laws.BitsLemmas
namespace Go.Proofs.Ytdpnebdepjdogaa.Aid
set_option linter.unusedVariables false
set_option linter.unusedSimpArgs false
open Go.RowKit Go.Proofs.YtdpnebdepjdogaaW.PrintWords Go.Proofs.YtdpnebdepjdogaaW.PrintLast Go.Proofs.YtdpnebdepjdogaaW.PrintMore

theorem w64 {n : Int} (h0 : -9223372036854775808 ≤ n) (h1 : n ≤ 9223372036854775807) : wrap64 n = n := by
  unfold wrap64; omega

/-- n numbers from m on. -/
def iota (m : Int) : Nat → List Int
  | 0 => []
  | n + 1 => m :: iota (m + 1) n
theorem iota_length (m : Int) (n : Nat) : (iota m n).length = n := by
  induction n generalizing m with
  | zero => rfl
  | succ n ih => simp [iota, ih]
/-- The same, each modulo 256. -/
def iota8 (m : Int) : Nat → List Int
  | 0 => []
  | n + 1 => (m % 256) :: iota8 (m + 1) n
theorem iota8_length (m : Int) (n : Nat) : (iota8 m n).length = n := by
  induction n generalizing m with
  | zero => rfl
  | succ n ih => simp [iota8, ih]

theorem drop_cons {α : Type} (d : α) (l : List α) (i : Nat) (h : i < l.length) : l.drop i = l.getD i d :: l.drop (i + 1) := by
  rw [List.drop_eq_getElem_cons h, List.getD_eq_getElem?_getD, List.getElem?_eq_getElem h, Option.getD_some]

theorem set_take_append {α : Type} (l : List α) (i : Nat) (v : α) (h : i < l.length) (r : List α) : (l.set i v).take (i + 1) ++ r = l.take i ++ v :: r := by
  rw [List.take_add_one, List.take_set]
  have e : (l.take i).set i v = l.take i := List.set_eq_of_length_le (by simp; omega)
  rw [e]
  simp [h]

theorem rd_drop {l : List Int} {i : Int} {x : Int} {r : List Int} (h0 : 0 ≤ i) (h : l.drop i.toNat = x :: r) : rd l i = x := by
  unfold rd
  have hl : i.toNat < l.length := by
    apply Decidable.byContradiction
    intro hn
    rw [List.drop_eq_nil_of_le (by omega)] at h
    cases h
  rw [drop_cons 0 l _ hl] at h
  injection h

theorem wrap_nonneg64 (n : Int) (h0 : 0 ≤ n) (h1 : n < 9223372036854775808) : IntKind.i64.wrap n = n := by
  rw [IntKind.wrap_i64]; omega

/-- x & (2^i - 1) is x modulo 2^i, below 0 too. -/
theorem and_mask (x : Int) (i : Nat) (hi : i ≤ 62) : bits .and .i64 x (2 ^ i - 1) = x % 2 ^ i := by
  have hpos : 0 < 2 ^ i := Nat.two_pow_pos i
  have hle : 2 ^ i ≤ 4611686018427387904 := Nat.pow_le_pow_right (n := 2) (by decide) hi
  have hc : ((2 : Int) ^ i - 1) = ((2 ^ i - 1 : Nat) : Int) := by
    rw [Int.natCast_sub hpos]; simp
  have hdvd : ((2 ^ i : Nat) : Int) ∣ ((2 ^ 64 : Nat) : Int) := by
    rw [Int.natCast_dvd_natCast]
    exact Nat.pow_dvd_pow 2 (by omega)
  have hb : (2 ^ i - 1) % 2 ^ 64 = 2 ^ i - 1 := Nat.mod_eq_of_lt (by omega)
  rw [hc]
  have hx : ∀ a : Nat, a % 2 ^ 64 = a → bits .and .i64 x (a : Int) = IntKind.i64.wrap (((x % ((2 ^ 64 : Nat) : Int)).toNat &&& a : Nat) : Int) := by
    intro a ha
    show IntKind.i64.wrap (((BitVec.ofInt 64 x &&& BitVec.ofInt 64 (a : Int)).toNat : Nat) : Int) = _
    rw [BitVec.toNat_and, BitVec.toNat_ofInt, BitVec.ofInt_natCast, BitVec.toNat_ofNat, ha]
  rw [hx _ hb, Nat.and_two_pow_sub_one_eq_mod]
  have h1 : ((x % ((2 ^ 64 : Nat) : Int)).toNat : Int) = x % ((2 ^ 64 : Nat) : Int) := Int.toNat_of_nonneg (Int.emod_nonneg _ (by decide))
  have h2 : (((x % ((2 ^ 64 : Nat) : Int)).toNat % 2 ^ i : Nat) : Int) = x % 2 ^ i := by
    rw [Int.natCast_emod, h1, Int.emod_emod_of_dvd _ hdvd]
    simp
  rw [h2]
  have h3 : 0 ≤ x % (2 : Int) ^ i := Int.emod_nonneg _ (by exact_mod_cast (by omega : (2 ^ i : Nat) ≠ 0))
  have h4 : x % (2 : Int) ^ i < (2 : Int) ^ i := Int.emod_lt_of_pos _ (by exact_mod_cast hpos)
  have h5 : (2 : Int) ^ i ≤ 4611686018427387904 := by
    rw [show (2 : Int) ^ i = ((2 ^ i : Nat) : Int) by simp]
    omega
  exact wrap_nonneg64 _ h3 (by omega)

/-- n | y, where they share no place. -/
theorem or_high (i : Nat) (n y : Int) (h0 : 0 ≤ n) (h1 : n < 2 ^ i) (hy : 0 ≤ y) (hy1 : y % 2 ^ i = 0) (hy2 : y < 2 ^ 62) (h2 : n < 2 ^ 62) : bits .or .i64 n y = n + y := by
  have hk : ∀ n : Int, 0 ≤ n → n < 2 ^ 62 → IntKind.i64.wrap n = n := fun n a b => wrap_nonneg64 n a (by omega)
  have h := bits_join .i64 62 (by decide) hk i y n hy hy1 hy2 h0 h1 h2
  obtain ⟨a, rfl⟩ := Int.eq_ofNat_of_zero_le h0
  obtain ⟨b, rfl⟩ := Int.eq_ofNat_of_zero_le hy
  have ha : a < 2 ^ 62 := by exact_mod_cast h2
  have hb : b < 2 ^ 62 := by exact_mod_cast hy2
  rw [(bits_nat .i64 62 (by decide) hk a b ha hb).2, Nat.or_comm, ← (bits_nat .i64 62 (by decide) hk b a hb ha).2, h]
  omega

theorem of_wf_i64 {n : Int} (h : (Lit.int .i64 n).wf = true) : -9223372036854775808 ≤ n ∧ n ≤ 9223372036854775807 := by
  simp [Lit.wf, IntKind.min, IntKind.max, IntKind.bits, IntKind.signed] at h
  omega
theorem of_wf_u8 {n : Int} (h : (Lit.int .u8 n).wf = true) : 0 ≤ n ∧ n ≤ 255 := by
  simp [Lit.wf, IntKind.min, IntKind.max, IntKind.bits, IntKind.signed] at h
  omega


/-- Going through a list: what is done, what is left. -/
theorem zip_ind {α : Type} {x : List α} (Q : List α → List α → Prop) (base : Q x []) (step : ∀ done c rest, done ++ c :: rest = x → Q (done ++ [c]) rest → Q done (c :: rest)) : Q [] x := by
  have key : ∀ (rest done : List α), done ++ rest = x → Q done rest := by
    intro rest
    induction rest with
    | nil =>
      intro done h
      rw [List.append_nil] at h
      rw [h]
      exact base
    | cons c rest ih =>
      intro done h
      exact step done c rest h (ih (done ++ [c]) (by rw [← h, List.append_assoc]; rfl))
  exact key x [] rfl
theorem getD_zip {α : Type} (done : List α) (c : α) (rest : List α) (z : α) : (done ++ c :: rest).getD ((done.length : Int).toNat) z = c := by
  rw [Int.toNat_natCast, List.getD_eq_getElem?_getD, List.getElem?_append_right (Nat.le_refl _), Nat.sub_self]
  rfl
theorem set_zip {α : Type} (done : List α) (c : α) (rest : List α) (b : α) : (done ++ c :: rest).set ((done.length : Int).toNat) b = done ++ b :: rest := by
  rw [Int.toNat_natCast, List.set_append_right _ _ (Nat.le_refl _), Nat.sub_self]
  rfl
theorem rd_zip (done : List Int) (c : Int) (rest : List Int) : rd (done ++ c :: rest) (done.length : Int) = c := getD_zip done c rest 0
theorem next_zip {α : Type} (done : List α) (c : α) (h : done.length < 4611686018427387904) : wrap64 ((done.length : Int) + 1) = ((done ++ [c]).length : Int) := by
  rw [w64 (by omega) (by omega), List.length_append, List.length_singleton]
  omega
theorem length_zip {α : Type} (done : List α) (c : α) (rest : List α) : ((done ++ c :: rest).length : Int) = done.length + rest.length + 1 := by
  rw [List.length_append, List.length_cons]
  omega
/-- How many there are, element by element. -/
def tot {α : Type} (f : α → Nat) : List α → Nat
  | [] => 0
  | a :: l => f a + tot f l
theorem tot_append {α : Type} (f : α → Nat) (a b : List α) : tot f (a ++ b) = tot f a + tot f b := by
  induction a with
  | nil => simp [tot]
  | cons x a ih => simp only [List.cons_append, tot, ih]; omega
theorem tot_mem {α : Type} (f : α → Nat) (l : List α) (x : α) (h : x ∈ l) : f x ≤ tot f l := by
  induction l with
  | nil => cases h
  | cons y l ih =>
    rcases List.mem_cons.1 h with rfl | h
    · simp only [tot]; omega
    · simp only [tot]; have := ih h; omega
/-- What is left of a budget; -1 where it is passed. -/
def szr (v : Nat) (left : Int) : Int := if (v : Int) ≤ left then left - v else -1
theorem szr_zero (left : Int) (h : 0 ≤ left) : szr 0 left = left := by
  unfold szr
  rw [if_pos (by omega)]
  omega
theorem szr_neg {v : Nat} {left : Int} (h : szr v left < 0) (h0 : 0 ≤ left) : left < v ∧ szr v left = -1 := by
  unfold szr at h ⊢
  split at h
  · omega
  · rename_i c
    rw [if_neg c]
    exact ⟨by omega, rfl⟩
theorem szr_pos {v : Nat} {left : Int} (h : ¬ szr v left < 0) : (v : Int) ≤ left ∧ szr v left = left - v := by
  unfold szr at h ⊢
  split at h
  · rename_i c
    rw [if_pos c]
    exact ⟨c, rfl⟩
  · omega
theorem szr_add {v u : Nat} {left : Int} (h : (v : Int) ≤ left) : szr u (left - v) = szr (v + u) left := by
  unfold szr
  by_cases c : (u : Int) ≤ left - v
  · rw [if_pos c, if_pos (by omega)]
    omega
  · rw [if_neg c, if_neg (by omega)]
theorem szr_over {v u : Nat} {left : Int} (h : left < v) : szr (v + u) left = -1 := by
  unfold szr
  rw [if_neg (by omega)]

end Go.Proofs.Ytdpnebdepjdogaa.Aid
