/- What functions of the program and of the reference come to, for the law FnExactVerify. Each under the conditions that it names. -/
import Derived.Test.YtfnhimhmhinjdaaBFnExactVerify
namespace Go.Proofs.Ytfnhimhmhinjdaa.GFnExactVerify
open Go Go.Rsc Go.Proofs.Ytfnhimhmhinjdaa
set_option maxRecDepth 100000
set_option linter.unusedVariables false
set_option linter.unusedSimpArgs false
/-! ### What an op takes and puts; what comes behind it -/
def effT (c m : Int) : Int := if c ≤ 4 then 0 else if c = 5 ∨ c = 8 then m else if c = 6 ∨ c = 20 ∨ (12 ≤ c ∧ c ≤ 16) then 2 else if c = 19 ∨ c = 21 then 0 else 1
def effP (c : Int) : Int := if c = 7 ∨ c = 10 ∨ c = 11 ∨ c = 18 ∨ c = 19 ∨ c = 21 then 0 else 1
def nxt (c n m : Int) (at_ : Nat) : List Int := if c = 7 ∨ c = 21 then [] else if c = 19 then [n] else if c = 18 then [(at_ : Int) + 1, n] else if c = 10 ∨ c = 11 then [(at_ : Int) + 1, m] else [(at_ : Int) + 1]
theorem codes {c : Int} (h1 : 1 ≤ c) (h2 : c ≤ 21) {p : Int → Prop} (h : p 1 ∧ p 2 ∧ p 3 ∧ p 4 ∧ p 5 ∧ p 6 ∧ p 7 ∧ p 8 ∧ p 9 ∧ p 10 ∧ p 11 ∧ p 12 ∧ p 13 ∧ p 14 ∧ p 15 ∧ p 16 ∧ p 17 ∧ p 18 ∧ p 19 ∧ p 20 ∧ p 21) : p c := by
  obtain ⟨a1, a2, a3, a4, a5, a6, a7, a8, a9, a10, a11, a12, a13, a14, a15, a16, a17, a18, a19, a20, a21⟩ := h
  have : c = 1 ∨ c = 2 ∨ c = 3 ∨ c = 4 ∨ c = 5 ∨ c = 6 ∨ c = 7 ∨ c = 8 ∨ c = 9 ∨ c = 10 ∨ c = 11 ∨ c = 12 ∨ c = 13 ∨ c = 14 ∨ c = 15 ∨ c = 16 ∨ c = 17 ∨ c = 18 ∨ c = 19 ∨ c = 20 ∨ c = 21 := by omega
  rcases this with rfl | rfl | rfl | rfl | rfl | rfl | rfl | rfl | rfl | rfl | rfl | rfl | rfl | rfl | rfl | rfl | rfl | rfl | rfl | rfl | rfl <;> assumption
theorem effS {c : Int} (n m : Int) (h1 : 1 ≤ c) (h2 : c ≤ 21) : Rn 87 [.agg [.int c, .int n, .int m]] [.int (effT c m), .int (effP c)] := by
  refine codes (p := fun c => Rn 87 [.agg [.int c, .int n, .int m]] [.int (effT c m), .int (effP c)]) h1 h2 ?_
  refine ⟨?_, ?_, ?_, ?_, ?_, ?_, ?_, ?_, ?_, ?_, ?_, ?_, ?_, ?_, ?_, ?_, ?_, ?_, ?_, ?_, ?_⟩ <;> exact Is.of e87 (Evt.all fun k => by simp [F87, eqI, effT, effP])
theorem effI {c : Int} (n m : Int) (h1 : 1 ≤ c) (h2 : c ≤ 21) : Rn 55 [.agg [.int c, .int n, .int m]] [.int (effT c m), .int (effP c)] := by
  refine Is.of e55 ((is54 c 1 4).mp2 (is54 c 12 16) fun k q1 q2 => ?_)
  revert q1 q2
  refine codes (p := fun c => ev Try.prog sg k 54 [.int c, .int 1, .int 4] = some [.bool (okR c 1 4)] → ev Try.prog sg k 54 [.int c, .int 12, .int 16] = some [.bool (okR c 12 16)] → F55 (ev Try.prog sg k) k [.agg [.int c, .int n, .int m]] = some [.int (effT c m), .int (effP c)]) h1 h2 ?_
  refine ⟨?_, ?_, ?_, ?_, ?_, ?_, ?_, ?_, ?_, ?_, ?_, ?_, ?_, ?_, ?_, ?_, ?_, ?_, ?_, ?_, ?_⟩ <;> intro q1 q2 <;> simp [okR] at q1 q2 <;> simp [F55, eqI, effT, effP, q1, q2]
theorem nxtI {c : Int} (n m : Int) (at_ : Nat) (ha : at_ ≤ 1048576) (h1 : 1 ≤ c) (h2 : c ≤ 21) : Rn 56 [.agg [.int c, .int n, .int m], .int at_] [.list ((nxt c n m at_).map PV.int)] := by
  have w : IntKind.i64.wrap ((at_ : Int) + 1) = (at_ : Int) + 1 := wrap64 (by omega) (by omega)
  refine codes (p := fun c => Rn 56 [.agg [.int c, .int n, .int m], .int at_] [.list ((nxt c n m at_).map PV.int)]) h1 h2 ?_
  refine ⟨?_, ?_, ?_, ?_, ?_, ?_, ?_, ?_, ?_, ?_, ?_, ?_, ?_, ?_, ?_, ?_, ?_, ?_, ?_, ?_, ?_⟩ <;> exact Is.of e56 (Evt.all fun k => by simp [F56, eqI, nxt, w])
/-! ### Depths: what is forced -/
def gd (D : List Int) (k : Nat) : Int := D.getD k (-1)
theorem gd_set (D : List Int) (s k : Nat) (b : Int) (hs : s < D.length) : gd (D.set s b) k = if k = s then b else gd D k := by
  unfold gd
  simp only [List.getD_eq_getElem?_getD, List.getElem?_set]
  by_cases h : s = k
  · subst h; simp [hs]
  · have : ¬ k = s := fun e => h e.symm
    simp [h, this]
theorem gd_out {D : List Int} {k : Nat} (h : D.length ≤ k) : gd D k = -1 := by
  unfold gd; simp [List.getD_eq_getElem?_getD, List.getElem?_eq_none h]
def unset (D : List Int) : Nat := D.count (-1)
theorem unset_set : ∀ (D : List Int) (s : Nat) (b : Int), s < D.length → gd D s = -1 → b ≠ -1 → unset (D.set s b) + 1 = unset D
  | [], s, b, h, _, _ => by simp at h
  | x :: D, 0, b, _, h2, h3 => by
    have hx : x = -1 := by simpa [gd] using h2
    subst hx
    simp [unset, h3]
  | x :: D, s + 1, b, h1, h2, h3 => by
    have ih := unset_set D s b (by simpa using h1) (by simpa [gd] using h2) h3
    unfold unset at ih ⊢
    rw [List.set_cons_succ, List.count_cons, List.count_cons]
    omega
theorem unset_le (D : List Int) : unset D ≤ D.length := List.count_le_length
theorem nth_map {D : List Int} {k : Nat} (h : k < D.length) : nth (D.map PV.int) k = .int (gd D k) := by
  unfold nth gd
  simp [List.getD_eq_getElem?_getD, h]
theorem set_map (D : List Int) (k : Nat) (b : Int) : (D.map PV.int).set k (.int b) = (D.set k b).map PV.int := by
  rw [List.map_set]

section
variable (N : Nat) (chk : Nat → Int → Prop) (nx : Nat → List Int) (bh : Nat → Int → Int)
structure Sol (E : List Int) : Prop where
  len : E.length = N
  zero : gd E 0 = 1
  ok : ∀ k, k < N → gd E k ≠ -1 → chk k (gd E k) ∧ ∀ s, s ∈ nx k → gd E s.toNat = bh k (gd E k)
structure Base (D : List Int) (T : List Int) : Prop where
  len : D.length = N
  zero : gd D 0 = 1
  rng : ∀ k, k < N → gd D k = -1 ∨ (1 ≤ gd D k ∧ gd D k ≤ 60)
  todo : ∀ t, t ∈ T → ∃ k : Nat, t = (k : Int) ∧ k < N ∧ gd D k ≠ -1
  forced : ∀ E, Sol N chk nx bh E → ∀ k, k < N → gd D k ≠ -1 → gd E k = gd D k
structure Inv (D : List Int) (T : List Int) : Prop extends Base N chk nx bh D T where
  closed : ∀ k, k < N → gd D k ≠ -1 → (k : Int) ∈ T ∨ (chk k (gd D k) ∧ ∀ s, s ∈ nx k → gd D s.toNat = bh k (gd D k))
structure PInv (at_ : Nat) (d : Int) (don : List Int) (D : List Int) (T : List Int) : Prop extends Base N chk nx bh D T where
  at_eq : gd D at_ = d
  closed : ∀ k, k < N → k ≠ at_ → gd D k ≠ -1 → (k : Int) ∈ T ∨ (chk k (gd D k) ∧ ∀ s, s ∈ nx k → gd D s.toNat = bh k (gd D k))
  don : ∀ s, s ∈ don → gd D s.toNat = bh at_ d

variable {N chk nx bh}
variable (hch : ∀ k d, chk k d → 1 ≤ bh k d ∧ bh k d ≤ 60) (hnx : ∀ k s, k < N → s ∈ nx k → 0 ≤ s ∧ s < N)
theorem Inv.sol {D : List Int} (h : Inv N chk nx bh D []) : Sol N chk nx bh D :=
  ⟨h.len, h.zero, fun k hk hd => (h.closed k hk hd).resolve_left (by simp)⟩
theorem Inv.pop {D T : List Int} {at_ : Nat} (h : Inv N chk nx bh D (T ++ [(at_ : Int)])) (ha : at_ < N) : PInv N chk nx bh at_ (gd D at_) [] D T :=
  { h.toBase with
    todo := fun t ht => h.todo t (by simp [ht])
    at_eq := rfl
    closed := fun k hk hne hd => by
      rcases h.closed k hk hd with h1 | h1
      · rcases List.mem_append.1 h1 with h2 | h2
        · exact .inl h2
        · simp only [List.mem_singleton] at h2; exact absurd (by omega) hne
      · exact .inr h1
    don := fun s hs => by cases hs }
theorem PInv.inv {D T : List Int} {at_ : Nat} {d : Int} {don : List Int} (h : PInv N chk nx bh at_ d don D T) (hc : chk at_ d) (hall : ∀ s, s ∈ nx at_ → s ∈ don) : Inv N chk nx bh D T :=
  { h.toBase with
    closed := fun k hk hd => by
      by_cases e : k = at_
      · subst e
        rw [h.at_eq]
        exact .inr ⟨hc, fun s hs => h.don s (hall s hs)⟩
      · exact h.closed k hk e hd }
include hch hnx in
theorem PInv.put {D T : List Int} {at_ : Nat} {d : Int} {don : List Int} {s : Nat} (h : PInv N chk nx bh at_ d don D T) (ha : at_ < N) (hd : d ≠ -1) (hc : chk at_ d) (hs : (s : Int) ∈ nx at_) :
    (gd D s = -1 → PInv N chk nx bh at_ d (don ++ [(s : Int)]) (D.set s (bh at_ d)) (T ++ [(s : Int)])) ∧ (gd D s = bh at_ d → PInv N chk nx bh at_ d (don ++ [(s : Int)]) D T) ∧ (gd D s ≠ -1 → gd D s ≠ bh at_ d → ∀ E, ¬ Sol N chk nx bh E) := by
  obtain ⟨b1, b2⟩ := hch at_ d hc
  have hsN := hnx at_ s ha hs
  have hsl : s < D.length := by rw [h.len]; omega
  have hE : ∀ E, Sol N chk nx bh E → gd E s = bh at_ d := fun E he => by
    have e1 := h.forced E he at_ ha (by rw [h.at_eq]; exact hd)
    rw [h.at_eq] at e1
    have := (he.ok at_ ha (by rw [e1]; exact hd)).2 s hs
    rw [e1, Int.toNat_natCast] at this
    exact this
  refine ⟨fun hu => ?_, fun hb => ?_, fun hn hne E he => ?_⟩
  · have hsa : s ≠ at_ := fun e => by rw [e, h.at_eq] at hu; exact hd hu
    have hg : ∀ k, gd (D.set s (bh at_ d)) k = if k = s then bh at_ d else gd D k := fun k => gd_set D s k _ hsl
    refine
      { len := by rw [List.length_set]; exact h.len
        zero := ?_
        rng := fun k hk => ?_
        todo := fun t ht => ?_
        forced := fun E he k hk hk2 => ?_
        at_eq := by rw [hg, if_neg (Ne.symm hsa)]; exact h.at_eq
        closed := fun k hk hka hk2 => ?_
        don := fun t ht => ?_ }
    · rw [hg]
      by_cases e : (0 : Nat) = s
      · rw [← e, h.zero] at hu; cases hu
      · rw [if_neg e]; exact h.zero
    · rw [hg]
      by_cases e : k = s
      · rw [if_pos e]; exact .inr ⟨b1, b2⟩
      · rw [if_neg e]; exact h.rng k hk
    · rcases List.mem_append.1 ht with h1 | h1
      · obtain ⟨k, e1, e2, e3⟩ := h.todo t h1
        refine ⟨k, e1, e2, ?_⟩
        rw [hg]
        by_cases e : k = s
        · rw [e] at e3; exact absurd hu e3
        · rw [if_neg e]; exact e3
      · simp only [List.mem_singleton] at h1
        refine ⟨s, h1, by omega, ?_⟩
        rw [hg, if_pos rfl]; omega
    · rw [hg] at hk2 ⊢
      by_cases e : k = s
      · rw [if_pos e, e]; exact hE E he
      · rw [if_neg e] at hk2 ⊢; exact h.forced E he k hk hk2
    · rw [hg] at hk2 ⊢
      by_cases e : k = s
      · rw [e]; exact .inl (by simp)
      · rw [if_neg e] at hk2 ⊢
        rcases h.closed k hk hka hk2 with h1 | ⟨h1, h2⟩
        · exact .inl (by simp [h1])
        · refine .inr ⟨h1, fun t ht => ?_⟩
          rw [hg]
          by_cases e2 : t.toNat = s
          · have := h2 t ht
            rw [e2, hu] at this
            have := (hch k _ h1).1
            omega
          · rw [if_neg e2]; exact h2 t ht
    · rw [hg]
      rcases List.mem_append.1 ht with h1 | h1
      · by_cases e : t.toNat = s
        · rw [if_pos e]
        · rw [if_neg e]; exact h.don t h1
      · simp only [List.mem_singleton] at h1
        rw [h1, Int.toNat_natCast, if_pos rfl]
  · refine { h with don := fun t ht => ?_ }
    rcases List.mem_append.1 ht with h1 | h1
    · exact h.don t h1
    · simp only [List.mem_singleton] at h1
      rw [h1, Int.toNat_natCast]; exact hb
  · have e1 := h.forced E he s (by omega) hn
    rw [hE E he] at e1
    exact hne e1.symm
end
theorem Sol.ext_eq {D D' : List Int} (hl : D.length = D'.length) (h : ∀ k, k < D.length → gd D k = gd D' k) : D = D' := by
  refine List.ext_getElem hl fun k h1 h2 => ?_
  have := h k h1
  unfold gd at this
  simpa [List.getD_eq_getElem?_getD, h1, h2] using this
/-- Two that are both forced are the same. -/
theorem Sol.unique {N : Nat} {chk : Nat → Int → Prop} {nx nx' : Nat → List Int} {bh : Nat → Int → Int} (hn : ∀ k s, s ∈ nx k ↔ s ∈ nx' k) {D D' : List Int} (h : Inv N chk nx bh D []) (h' : Inv N chk nx' bh D' []) : D = D' := by
  have conv : ∀ {nx nx' : Nat → List Int} {E : List Int}, (∀ k s, s ∈ nx k ↔ s ∈ nx' k) → Sol N chk nx bh E → Sol N chk nx' bh E := fun hn he => ⟨he.len, he.zero, fun k hk hd => ⟨(he.ok k hk hd).1, fun s hs => (he.ok k hk hd).2 s ((hn k s).2 hs)⟩⟩
  have s1 := h.sol
  have s2 := h'.sol
  refine Sol.ext_eq (by rw [s1.len, s2.len]) fun k hk => ?_
  rw [s1.len] at hk
  by_cases e : gd D k = -1
  · by_cases e' : gd D' k = -1
    · rw [e, e']
    · exact (h'.forced D (conv hn s1) k hk e')
  · exact (h.forced D' (conv (fun k s => (hn k s).symm) s2) k hk e).symm
end Go.Proofs.Ytfnhimhmhinjdaa.GFnExactVerify
