/- For every heap, kind, tag and kids the program's Alloc returns what the reference's returns, leaves what it is given alone and shares none of it. No conditions. -/
import Derived.Test.YtdpnebdepjdogaaWfFnExactAlloc
import Derived.Test.YtdpnebdepjdogaaVFnExactAllocAid
import Derived.Test.YtdpnebdepjdogaaVFnExactAllocCp
namespace Go.Proofs.Ytdpnebdepjdogaa.PureAlloc
open Go.RowKit Go.Proofs.Ytdpnebdepjdogaa.QFnExactAlloc Go.Proofs.Ytdpnebdepjdogaa.Aid Go.Proofs.YtdpnebdepjdogaaW.PrintWords Go.Proofs.YtdpnebdepjdogaaW.PrintLast Go.Proofs.YtdpnebdepjdogaaW.PrintMore
set_option linter.unusedVariables false
set_option linter.unusedSimpArgs false

/-! ### words and headers -/
def isref (w : Int) : Bool := decide (w % 2 = 0)
def wok (n : Int) : Bool := decide (-1073741824 ≤ n ∧ n ≤ 1073741823)
def hfun (w : Int) : Bool := decide (w / 2 % 2 = 1)
def htag (w : Int) : Int := w / 2 / 128
def hmany (w : Int) : Int := w / 2 / 2 % 64
def hok (w : Int) : Bool := decide (w % 2 ≠ 0 ∧ 0 ≤ w / 2 ∧ htag w ≤ 3000 ∧ hmany w ≤ 20)
theorem and1 (w : Int) : Go.bits .and .i64 w 1 = w % 2 := and_mask w 1 (by decide)
theorem and63 (w : Int) : Go.bits .and .i64 w 63 = w % 64 := and_mask w 6 (by decide)
theorem impl_isref (w : Int) : impl_IsRef.f w = some (isref w) := by
  unfold impl_IsRef.f isref
  rw [and1]
  rfl
theorem spec_isref (w : Int) : spec_IsRef.f w = some (isref w) := by
  unfold spec_IsRef.f isref
  rw [and1]
  rfl
theorem impl_header_is (w : Int) : impl_header.f w = some (hfun w, htag w, hmany w, hok w) := by
  unfold impl_header.f impl_WordInt.f
  simp only [impl_isref, Option.bind_some, and1, and63]
  have e1 : ((w / 2 % 2 == 1) : Bool) = hfun w := rfl
  rw [e1]
  by_cases c1 : w % 2 = 0
  · have h1 : isref w = true := decide_eq_true c1
    have h2 : hok w = false := decide_eq_false (fun h => h.1 c1)
    rw [h1, if_pos rfl, h2]
    rfl
  · have h1 : isref w = false := decide_eq_false c1
    rw [h1, if_neg (by decide)]
    by_cases c2 : w / 2 ≥ 0
    · rw [if_pos c2]
      by_cases c3 : w / 2 / 128 ≤ 3000
      · rw [if_pos c3]
        have h2 : decide (w / 2 / 2 % 64 ≤ 20) = hok w := by
          unfold hok htag hmany
          by_cases c4 : w / 2 / 2 % 64 ≤ 20
          · rw [decide_eq_true c4, decide_eq_true ⟨c1, c2, c3, c4⟩]
          · rw [decide_eq_false c4, decide_eq_false (fun h => c4 h.2.2.2)]
        rw [h2]
        rfl
      · rw [if_neg c3]
        have h2 : hok w = false := decide_eq_false (fun h => c3 h.2.2.1)
        rw [h2]
        rfl
    · rw [if_neg c2]
      have h2 : hok w = false := decide_eq_false (fun h => c2 h.2.1)
      rw [h2]
      rfl
theorem hmany_nonneg (w : Int) : 0 ≤ hmany w ∧ hmany w < 64 := by
  unfold hmany
  omega
theorem spec_of_is (w : Int) (h : 0 ≤ w) (hb : w ≤ 9223372036854775807) : spec_l17Of.f w = some (hfun w, htag w, hmany w) := by
  unfold spec_l17Of.f
  rw [and1, and63, Int.tdiv_eq_ediv_of_nonneg (by omega), w64 (by omega) (by omega)]
  have e1 : ((w / 2 % 2 == 1) : Bool) = hfun w := rfl
  rw [e1, show w / 2 / 2 / 64 = htag w by unfold htag; omega]
  rfl
theorem spec_of_any (w : Int) : spec_l17Of.f w = some (hfun w, wrap64 (Int.tdiv (w / 2 / 2) 64), hmany w) := by
  unfold spec_l17Of.f
  rw [and1, and63]
  have e1 : ((w / 2 % 2 == 1) : Bool) = hfun w := rfl
  rw [e1]
  rfl
theorem impl_wordok_is (n : Int) : impl_WordOk.f n = some (wok n) := by
  unfold impl_WordOk.f impl_within.f wok
  by_cases c : n ≥ -1073741824
  · by_cases d : n ≤ 1073741823
    · rw [if_pos c, decide_eq_true d, decide_eq_true ⟨c, d⟩]; rfl
    · rw [if_pos c, decide_eq_false d, decide_eq_false (fun h => d h.2)]; rfl
  · rw [if_neg c, decide_eq_false (fun h => c h.1)]; rfl
theorem spec_wordok_is (n : Int) : spec_WordOk.f n = some (wok n) := by
  unfold spec_WordOk.f spec_l1In.f wok
  by_cases c : n ≥ -1073741824
  · by_cases d : n ≤ 1073741823
    · rw [if_pos c, decide_eq_true d, decide_eq_true ⟨c, d⟩]; rfl
    · rw [if_pos c, decide_eq_false d, decide_eq_false (fun h => d h.2)]; rfl
  · rw [if_neg c, decide_eq_false (fun h => c h.1)]; rfl
theorem within_is (a b c : Int) : impl_within.f a b c = some (decide (b ≤ a ∧ a ≤ c)) := by
  unfold impl_within.f
  by_cases h : a ≥ b
  · by_cases d : a ≤ c
    · rw [if_pos h, decide_eq_true d, decide_eq_true ⟨h, d⟩]
    · rw [if_pos h, decide_eq_false d, decide_eq_false (fun h => d h.2)]
  · rw [if_neg h, decide_eq_false (fun x => h x.1)]
theorem l1in_is (a b c : Int) : spec_l1In.f a b c = some (decide (b ≤ a ∧ a ≤ c)) := by
  unfold spec_l1In.f
  by_cases h : a ≥ b
  · by_cases d : a ≤ c
    · rw [if_pos h, decide_eq_true d, decide_eq_true ⟨h, d⟩]
    · rw [if_pos h, decide_eq_false d, decide_eq_false (fun h => d h.2)]
  · rw [if_neg h, decide_eq_false (fun x => h x.1)]
/-- A row's words are whole numbers of 64 bits. -/
def Wide (ws : List Int) : Prop := ∀ x ∈ ws, -9223372036854775808 ≤ x ∧ x ≤ 9223372036854775807
theorem Wide.rd {ws : List Int} (h : Wide ws) (i : Int) : -9223372036854775808 ≤ rd ws i ∧ rd ws i ≤ 9223372036854775807 := by
  show -9223372036854775808 ≤ ws.getD i.toNat 0 ∧ ws.getD i.toNat 0 ≤ 9223372036854775807
  by_cases c : i.toNat < ws.length
  · rw [List.getD_eq_getElem?_getD, List.getElem?_eq_getElem c, Option.getD_some]
    exact h _ (List.getElem_mem c)
  · rw [List.getD_eq_getElem?_getD, List.getElem?_eq_none (by omega)]
    simp

/-! ### places of blocks -/
def blk (ws : List Int) (next : Int) : Nat → Int → List Int → Option (List Int)
  | 0, _, out => some out
  | d + 1, at0, out => if at0 < next then (if hok (rd ws at0) = true ∧ at0 + 1 + hmany (rd ws at0) ≤ next then blk ws next d (at0 + 1 + hmany (rd ws at0)) (out ++ [at0]) else none) else some out
abbrev hform (ws : List Int) (half base next : Int) : Prop := 1 ≤ half ∧ half ≤ 3000 ∧ (ws.length : Int) = 2 * half ∧ (base = 0 ∨ base = half) ∧ base ≤ next ∧ next ≤ base + half
def blocks (ws : List Int) (half base next : Int) : Option (List Int) := if hform ws half base next then blk ws next (next - base).toNat base [] else none
def pairOf : Option (List Int) → List Int × Bool
  | some l => (l, true)
  | none => ([], false)
theorem blk_ev (ws : List Int) (half base next : Int) (hw : Wide ws) (hl : ws.length ≤ 1048576) (hn : next ≤ ws.length) : ∀ (d : Nat) (at0 : Int) (out : List Int), 0 ≤ at0 → next - at0 ≤ d → out.length ≤ at0 →
    Ev (fun k => impl_blocksOf.l0 k out at0 ws half base next) (pairOf (blk ws next d at0 out)) ∧
    ∃ o, Ev (fun k => spec_l17Places.l0 k out at0 ws half base next) (o, (blk ws next d at0 out).isSome) ∧ ∀ r, blk ws next d at0 out = some r → o = r := by
  intro d
  induction d with
  | zero =>
    intro at0 out h0 hd ho
    refine ⟨Ev.step (fun k => ?_) (Ev.now _), out, Ev.step (fun k => ?_) (Ev.now _), fun r hr => Option.some.inj hr⟩
    · rw [impl_blocksOf.l0, if_neg (by omega)]; rfl
    · rw [spec_l17Places.l0, if_neg (by omega)]; rfl
  | succ d ih =>
    intro at0 out h0 hd ho
    by_cases c : at0 < next
    · obtain ⟨w, hwd⟩ : ∃ w, rd ws at0 = w := ⟨_, rfl⟩
      have hwb := hw.rd at0
      rw [hwd] at hwb
      have hm := hmany_nonneg w
      have e1 : wrap64 (at0 + 1) = at0 + 1 := w64 (by omega) (by omega)
      have e2 : wrap64 (at0 + 1 + hmany w) = at0 + 1 + hmany w := w64 (by omega) (by omega)
      have e3 : wrap64 (1 + hmany w) = 1 + hmany w := w64 (by omega) (by omega)
      have e4 : wrap64 (at0 + (1 + hmany w)) = at0 + 1 + hmany w := by rw [w64 (by omega) (by omega)]; omega
      have e5 : wrap64 (next - at0) = next - at0 := w64 (by omega) (by omega)
      have himpl : ∀ k, impl_blocksOf.l0 (k + 1) out at0 ws half base next = if hok w = true then (if at0 + 1 + hmany w > next then some ([], false) else impl_blocksOf.l0 k (out ++ [at0]) (at0 + 1 + hmany w) ws half base next) else some ([], false) := by
        intro k
        rw [impl_blocksOf.l0, if_pos c, if_pos h0, if_pos (by omega), hwd, impl_header_is]
        simp only [Option.bind_some]
        rw [e1, e2, e3, e4, if_pos (show out.length < 17592186044416 by omega)]
      have hspec0 : ∀ k, spec_l17Places.l0 (k + 1) out at0 ws half base next = if w < 0 then some (out, false) else if isref w = true then some (out, false) else if wrap64 (Int.tdiv (w / 2 / 2) 64) > 3000 then some (out, false) else if hmany w > 20 then some (out, false) else if hmany w ≥ next - at0 then some (out, false) else spec_l17Places.l0 k (out ++ [at0]) (at0 + 1 + hmany w) ws half base next := by
        intro k
        rw [spec_l17Places.l0, if_pos c, if_pos h0, if_pos (by omega), hwd, spec_of_any]
        simp only [Option.bind_some, spec_isref]
        rw [e1, e2, e5, if_pos (show out.length < 17592186044416 by omega)]
      by_cases hk : hok w = true ∧ at0 + 1 + hmany w ≤ next
      · have hb : blk ws next (d + 1) at0 out = blk ws next d (at0 + 1 + hmany w) (out ++ [at0]) := by
          rw [blk, if_pos c, hwd, if_pos hk]
        rw [hb]
        obtain ⟨i1, o, i2, i3⟩ := ih (at0 + 1 + hmany w) (out ++ [at0]) (by omega) (by omega) (by rw [List.length_append, List.length_singleton]; omega)
        have hh : w % 2 ≠ 0 ∧ 0 ≤ w / 2 ∧ htag w ≤ 3000 ∧ hmany w ≤ 20 := of_decide_eq_true hk.1
        have hw0 : 0 ≤ w := by omega
        have ht : wrap64 (Int.tdiv (w / 2 / 2) 64) = htag w := by
          rw [Int.tdiv_eq_ediv_of_nonneg (by omega), w64 (by omega) (by omega)]
          unfold htag
          omega
        refine ⟨Ev.step himpl (Ev.congr (fun k => ?_) i1), o, Ev.step hspec0 (Ev.congr (fun k => ?_) i2), i3⟩
        · rw [if_pos hk.1, if_neg (by omega)]
        · rw [if_neg (by omega), if_neg (by rw [show isref w = false from decide_eq_false hh.1]; decide), ht, if_neg (by omega), if_neg (by omega), if_neg (by omega)]
      · have hb : blk ws next (d + 1) at0 out = none := by
          rw [blk, if_pos c, hwd, if_neg hk]
        rw [hb]
        refine ⟨Ev.step himpl (Ev.congr (f := fun _ => some ([], false)) (fun k => ?_) (Ev.now _)), out, Ev.step hspec0 (Ev.congr (f := fun _ => some (out, false)) (fun k => ?_) (Ev.now _)), fun r hr => by cases hr⟩
        · by_cases h1 : hok w = true
          · rw [if_pos h1, if_pos (by
              have : ¬ at0 + 1 + hmany w ≤ next := fun h => hk ⟨h1, h⟩
              omega)]
          · rw [if_neg h1]
        · by_cases g1 : w < 0
          · rw [if_pos g1]
          rw [if_neg g1]
          by_cases g2 : isref w = true
          · rw [if_pos g2]
          rw [if_neg g2]
          have ht : wrap64 (Int.tdiv (w / 2 / 2) 64) = htag w := by
            rw [Int.tdiv_eq_ediv_of_nonneg (by omega), w64 (by omega) (by omega)]
            unfold htag
            omega
          rw [ht]
          by_cases g3 : htag w > 3000
          · rw [if_pos g3]
          rw [if_neg g3]
          by_cases g4 : hmany w > 20
          · rw [if_pos g4]
          rw [if_neg g4]
          by_cases g5 : hmany w ≥ next - at0
          · rw [if_pos g5]
          · exfalso
            apply hk
            have g2' : w % 2 ≠ 0 := fun h => g2 (decide_eq_true h)
            exact ⟨decide_eq_true ⟨g2', by omega, by omega, by omega⟩, by omega⟩
    · have hb : blk ws next (d + 1) at0 out = some out := by rw [blk, if_neg c]
      rw [hb]
      refine ⟨Ev.step (fun k => ?_) (Ev.now _), out, Ev.step (fun k => ?_) (Ev.now _), fun r hr => Option.some.inj hr⟩
      · rw [impl_blocksOf.l0, if_neg c]; rfl
      · rw [spec_l17Places.l0, if_neg c]; rfl
/-- What is known of a place of a block. -/
def Blk (ws : List Int) (base next p : Int) : Prop := base ≤ p ∧ hok (rd ws p) = true ∧ p + 1 + hmany (rd ws p) ≤ next
theorem blk_props (ws : List Int) (base next : Int) : ∀ (d : Nat) (at0 : Int) (out r : List Int), base ≤ at0 → (∀ p ∈ out, Blk ws base next p ∧ p < at0) → out.Pairwise (· < ·) → blk ws next d at0 out = some r →
    (∀ p ∈ r, Blk ws base next p) ∧ r.Pairwise (· < ·) := by
  intro d
  induction d with
  | zero =>
    intro at0 out r hb ho hs h
    rw [blk] at h
    obtain rfl := Option.some.inj h
    exact ⟨fun p hp => (ho p hp).1, hs⟩
  | succ d ih =>
    intro at0 out r hb ho hs h
    rw [blk] at h
    by_cases c : at0 < next
    · rw [if_pos c] at h
      by_cases hk : hok (rd ws at0) = true ∧ at0 + 1 + hmany (rd ws at0) ≤ next
      · rw [if_pos hk] at h
        have hm := hmany_nonneg (rd ws at0)
        refine ih _ _ _ (by omega) ?_ ?_ h
        · intro p hp
          rcases List.mem_append.1 hp with hp | hp
          · have := ho p hp
            exact ⟨this.1, by omega⟩
          · rw [List.mem_singleton.1 hp]
            exact ⟨⟨hb, hk.1, hk.2⟩, by omega⟩
        · rw [List.pairwise_append]
          refine ⟨hs, List.pairwise_singleton _ _, fun a ha b hb2 => ?_⟩
          rw [List.mem_singleton.1 hb2]
          exact (ho a ha).2
      · rw [if_neg hk] at h
        cases h
    · rw [if_neg c] at h
      obtain rfl := Option.some.inj h
      exact ⟨fun p hp => (ho p hp).1, hs⟩
theorem blocks_props {ws : List Int} {half base next : Int} {r : List Int} (h : blocks ws half base next = some r) : hform ws half base next ∧ (∀ p ∈ r, Blk ws base next p) ∧ r.Pairwise (· < ·) := by
  unfold blocks at h
  by_cases c : hform ws half base next
  · rw [if_pos c] at h
    exact ⟨c, blk_props ws base next _ base [] r (Int.le_refl _) (fun p hp => by cases hp) List.Pairwise.nil h⟩
  · rw [if_neg c] at h
    cases h
theorem sorted_len (r : List Int) : ∀ (lo hi : Int), (∀ p ∈ r, lo ≤ p ∧ p < hi) → r.Pairwise (· < ·) → lo ≤ hi → (r.length : Int) ≤ hi - lo := by
  induction r with
  | nil => intro lo hi _ _ h; simp; omega
  | cons a r ih =>
    intro lo hi hp hs h
    have h1 := hp a (by simp)
    obtain ⟨h2, h3⟩ := List.pairwise_cons.1 hs
    have := ih (a + 1) hi (fun p hq => ⟨by have := h2 p hq; omega, (hp p (by simp [hq])).2⟩) h3 (by omega)
    simp only [List.length_cons]
    omega
theorem blocksOf_ev (ws : List Int) (half base next : Int) (hw : Wide ws) (hl : ws.length ≤ 1048576) (h1 : -9223372036854775808 ≤ half ∧ half ≤ 9223372036854775807) (h2 : -9223372036854775808 ≤ base ∧ base ≤ 9223372036854775807) :
    Ev (fun k => impl_blocksOf.f k ws half base next) (pairOf (blocks ws half base next)) := by
  have hneg : ¬ hform ws half base next → Ev (fun k => impl_blocksOf.j0 k true ws half base next) (pairOf (blocks ws half base next)) := by
    intro hn
    rw [show pairOf (blocks ws half base next) = ([], false) by unfold blocks; rw [if_neg hn]; rfl]
    exact Ev.step (fun k => by rw [impl_blocksOf.j0, if_pos rfl]) (Ev.now _)
  refine Ev.congr (f := fun k => if 1 ≤ half ∧ half ≤ 3000 then (if (ws.length : Int) = wrap64 (2 * half) then (if base = 0 ∨ base = half then impl_blocksOf.j0 k (!decide (base ≤ next ∧ next ≤ wrap64 (base + half))) ws half base next else impl_blocksOf.j0 k true ws half base next) else impl_blocksOf.j0 k true ws half base next) else impl_blocksOf.j0 k true ws half base next) (fun k => ?_) ?_
  · rw [impl_blocksOf.f, within_is]
    simp only [within_is, Option.bind_some, decide_eq_true_eq]
    by_cases c1 : 1 ≤ half ∧ half ≤ 3000
    · rw [if_pos c1, if_pos c1]
      by_cases c2 : (ws.length : Int) = wrap64 (2 * half)
      · rw [if_pos c2, if_pos c2]
        by_cases c3 : base = 0
        · rw [if_pos c3, if_pos (.inl c3)]
        · rw [if_neg c3]
          by_cases c4 : base = half
          · rw [if_pos c4, if_pos (.inr c4)]
          · rw [if_neg c4, if_neg (fun h => h.elim c3 c4)]
      · rw [if_neg c2, if_neg c2]
    · rw [if_neg c1, if_neg c1]
  · by_cases c1 : 1 ≤ half ∧ half ≤ 3000
    · refine Ev.congr (fun k => if_pos c1) ?_
      rw [w64 (n := 2 * half) (by omega) (by omega)]
      by_cases c2 : (ws.length : Int) = 2 * half
      · refine Ev.congr (fun k => if_pos c2) ?_
        by_cases c3 : base = 0 ∨ base = half
        · refine Ev.congr (fun k => if_pos c3) ?_
          rw [w64 (n := base + half) (by omega) (by omega)]
          by_cases c4 : base ≤ next ∧ next ≤ base + half
          · rw [decide_eq_true c4]
            have hf : hform ws half base next := ⟨c1.1, c1.2, c2, c3, c4.1, c4.2⟩
            refine Ev.step (fun k => by rw [impl_blocksOf.j0, if_neg (by decide)]) ?_
            have h := (blk_ev ws half base next hw hl (by omega) (next - base).toNat base [] (by omega) (by omega) (by simp; omega)).1
            unfold blocks
            rw [if_pos hf]
            exact h
          · rw [decide_eq_false c4]
            exact hneg (fun h => c4 ⟨h.2.2.2.2.1, h.2.2.2.2.2⟩)
        · exact Ev.congr (fun k => if_neg c3) (hneg (fun h => c3 h.2.2.2.1))
      · exact Ev.congr (fun k => if_neg c2) (hneg (fun h => c2 h.2.2.1))
    · exact Ev.congr (fun k => if_neg c1) (hneg (fun h => c1 ⟨h.1, h.2.1⟩))
theorem l17Places_ev (ws : List Int) (half base next : Int) (hw : Wide ws) (hl : ws.length ≤ 1048576) (hf : hform ws half base next) :
    ∃ o, Ev (fun k => spec_l17Places.f k ws half base next) (o, (blocks ws half base next).isSome) ∧ ∀ r, blocks ws half base next = some r → o = r := by
  obtain ⟨h1, h2, h3, h4, h5, h6⟩ := hf
  obtain ⟨o, ho, hr⟩ := (blk_ev ws half base next hw hl (by omega) (next - base).toNat base [] (by omega) (by omega) (by simp; omega)).2
  unfold blocks
  rw [if_pos ⟨h1, h2, h3, h4, h5, h6⟩]
  exact ⟨o, Ev.congr (fun k => rfl) ho, hr⟩

/-! ### BinarySearch -/
theorem less_is (a b : Int) : cmp_Less_int.f a b = some (decide (a < b)) := by
  unfold cmp_Less_int.f cmp_isNaN_int.f
  simp
theorem isnan_is (a : Int) : slices_isNaN_int.f a = some false := by
  unfold slices_isNaN_int.f
  simp
theorem getD_nat (l : List Int) (i : Int) (h0 : 0 ≤ i) (h : i < l.length) : rd l i = l[i.toNat]'(by omega) := by
  unfold rd
  rw [List.getD_eq_getElem?_getD, List.getElem?_eq_getElem (by omega), Option.getD_some]
theorem search_ev (l : List Int) (x : Int) (hl : l.length ≤ 1048576) (hs : l.Pairwise (· < ·)) : ∃ i, Ev (fun k => slices_BinarySearch_int_int.f k l x) (i, decide (x ∈ l)) := by
  have hlt : ∀ (a b : Nat) (ha : a < l.length) (hb : b < l.length), a < b → l[a] < l[b] := fun a b ha hb hab => List.pairwise_iff_getElem.1 hs a b ha hb hab
  have key : ∀ (d : Nat) (i j : Int), 0 ≤ i → i ≤ j → j ≤ l.length → j - i ≤ d → (∀ (t : Nat) (ht : t < l.length), (t : Int) < i → l[t] < x) → (∀ (t : Nat) (ht : t < l.length), j ≤ t → x ≤ l[t]) →
      ∃ p, Ev (fun k => slices_BinarySearch_int_int.l0 k l x (l.length : Int) i j) (p, decide (x ∈ l)) := by
    intro d
    induction d with
    | zero =>
      intro i j h0 h1 h2 hd hlo hhi
      obtain rfl : i = j := by omega
      by_cases c : i < l.length
      · have hr := getD_nat l i h0 c
        by_cases ce : rd l i = x
        · refine ⟨i, Ev.step (fun k => ?_) (Ev.now _)⟩
          rw [slices_BinarySearch_int_int.l0, if_neg (by omega), if_pos c, if_pos h0, if_pos c, if_pos ce, decide_eq_true (by rw [← ce, hr]; exact List.getElem_mem _)]
        · refine ⟨i, Ev.step (fun k => ?_) (Ev.now _)⟩
          rw [slices_BinarySearch_int_int.l0, if_neg (by omega), if_pos c, if_pos h0, if_pos c, if_neg ce, isnan_is]
          simp only [Option.bind_some, Bool.false_eq_true, if_false]
          rw [decide_eq_false]
          intro hm
          obtain ⟨t, ht, he⟩ := List.mem_iff_getElem.1 hm
          have hge := hhi i.toNat (by omega) (by omega)
          rw [← hr] at hge
          rcases Nat.lt_trichotomy t i.toNat with h | h | h
          · have := hlo t ht (by omega)
            omega
          · subst h
            rw [hr] at ce
            exact ce he
          · have := hlt i.toNat t (by omega) ht h
            rw [← hr] at this
            omega
      · refine ⟨i, Ev.step (fun k => ?_) (Ev.now _)⟩
        rw [slices_BinarySearch_int_int.l0, if_neg (by omega), if_neg c, decide_eq_false]
        intro hm
        obtain ⟨t, ht, he⟩ := List.mem_iff_getElem.1 hm
        have := hlo t ht (by omega)
        omega
    | succ d ih =>
      intro i j h0 h1 h2 hd hlo hhi
      by_cases c : i < j
      · have e1 : wrap64 (i + j) = i + j := w64 (by omega) (by omega)
        have e2 : IntKind.u64.wrap (i + j) = i + j := by
          simp only [IntKind.wrap, IntKind.bits, IntKind.signed]
          have : (i + j) % 18446744073709551616 = i + j := Int.emod_eq_of_lt (by omega) (by omega)
          simpa using this
        have e3 : wrap64 ((i + j) / 2) = (i + j) / 2 := w64 (by omega) (by omega)
        have e4 : wrap64 ((i + j) / 2 + 1) = (i + j) / 2 + 1 := w64 (by omega) (by omega)
        have hr := getD_nat l ((i + j) / 2) (by omega) (by omega)
        have hstep : ∀ k, slices_BinarySearch_int_int.l0 (k + 1) l x (l.length : Int) i j = if rd l ((i + j) / 2) < x then slices_BinarySearch_int_int.l0 k l x (l.length : Int) ((i + j) / 2 + 1) j else slices_BinarySearch_int_int.l0 k l x (l.length : Int) i ((i + j) / 2) := by
          intro k
          rw [slices_BinarySearch_int_int.l0, if_pos c, e1, e2, e3, e4, if_pos (by omega), if_pos (by omega), less_is]
          simp only [Option.bind_some, decide_eq_true_eq]
        by_cases cl : rd l ((i + j) / 2) < x
        · obtain ⟨p, hp⟩ := ih ((i + j) / 2 + 1) j (by omega) (by omega) h2 (by omega) (by
            intro t ht hti
            by_cases hte : t = ((i + j) / 2).toNat
            · subst hte
              rw [← hr]
              exact cl
            · have := hlt t ((i + j) / 2).toNat ht (by omega) (by omega)
              rw [← hr] at this
              omega) hhi
          exact ⟨p, Ev.step hstep (Ev.congr (fun k => if_pos cl) hp)⟩
        · obtain ⟨p, hp⟩ := ih i ((i + j) / 2) h0 (by omega) (by omega) (by omega) hlo (by
            intro t ht hti
            by_cases hte : t = ((i + j) / 2).toNat
            · subst hte
              rw [← hr]
              omega
            · have := hlt ((i + j) / 2).toNat t (by omega) ht (by omega)
              rw [← hr] at this
              omega)
          exact ⟨p, Ev.step hstep (Ev.congr (fun k => if_neg cl) hp)⟩
      · exact ih i j h0 h1 h2 (by omega) hlo hhi
  obtain ⟨p, hp⟩ := key l.length 0 l.length (by omega) (by omega) (by omega) (by omega) (fun t ht h => by omega) (fun t ht h => by omega)
  exact ⟨p, Ev.congr (fun k => rfl) hp⟩

/-! ### HeapOk -/
def there (bl : List Int) (w : Int) : Bool := if isref w = true then decide (w / 2 ∈ bl) else wok (w / 2)
theorem has_ev (l : List Int) (x : Int) (hl : l.length ≤ 1048576) : Ev (fun k => spec_l4Has.f k l x) (decide (x ∈ l)) := by
  have key : Ev (fun k => spec_l4Has.l0 k l x (([] : List Int).length : Int)) (decide (x ∈ l)) := by
    refine zip_ind (x := l) (fun done rest => Ev (fun k => spec_l4Has.l0 k l x (done.length : Int)) (decide (x ∈ rest))) ?_ ?_
    · refine Ev.step (fun k => ?_) (Ev.now _)
      rw [spec_l4Has.l0, if_neg (by omega), decide_eq_false (by simp)]
    · intro done e rest hd ih
      have hlen := length_zip done e rest
      have hrd := rd_zip done e rest
      rw [hd] at hlen hrd
      by_cases c : e = x
      · refine Ev.step (fun k => ?_) (Ev.now _)
        rw [spec_l4Has.l0, if_pos (by omega), if_pos (by omega), hrd, if_pos c, decide_eq_true (by rw [c]; simp)]
      · rw [show decide (x ∈ e :: rest) = decide (x ∈ rest) by
          apply decide_eq_decide.2
          rw [List.mem_cons]
          exact ⟨fun h => h.resolve_left (fun h => c h.symm), .inr⟩]
        refine Ev.step (fun k => ?_) ih
        rw [spec_l4Has.l0, if_pos (by omega), if_pos (by omega), hrd, if_neg c, next_zip _ e (by omega)]
  exact Ev.congr (fun k => rfl) key
theorem spec_there_ev (bl : List Int) (w : Int) (hl : bl.length ≤ 1048576) : Ev (fun k => spec_l17There.f k bl w) (there bl w) := by
  unfold there spec_l17There.f
  rw [spec_isref]
  simp only [Option.bind_some]
  by_cases c : isref w = true
  · rw [if_pos c]
    refine Ev.congr (fun k => if_pos c) ?_
    simp only [spec_WordRef.f, spec_l7In.f, Option.bind_some]
    exact Ev.bind (Ev.bind (has_ev bl (w / 2) hl) (Ev.now _)) (Ev.now _)
  · rw [if_neg c]
    refine Ev.congr (fun k => if_neg c) ?_
    simp only [spec_WordInt.f, spec_wordok_is, Option.bind_some]
    exact Ev.now _
theorem impl_isint_is (w : Int) : impl_isInt.f w = some (!isref w && wok (w / 2)) := by
  unfold impl_isInt.f
  rw [impl_isref]
  simp only [Option.bind_some]
  cases isref w
  · simp only [Bool.false_eq_true, if_false, impl_WordInt.f, impl_wordok_is, Option.bind_some]; rfl
  · rfl
theorem impl_isblock_ev (bl : List Int) (w : Int) (hl : bl.length ≤ 1048576) (hs : bl.Pairwise (· < ·)) : Ev (fun k => impl_isBlock.f k bl w) (isref w && decide (w / 2 ∈ bl)) := by
  obtain ⟨i, hi⟩ := search_ev bl (w / 2) hl hs
  unfold impl_isBlock.f
  simp only [impl_WordRef.f, Option.bind_some]
  refine Ev.bind hi ?_
  rw [impl_isref]
  simp only [Option.bind_some]
  cases isref w
  · exact Ev.now _
  · exact Ev.now _
/-- The kids of the block at a place. -/
def kids (ws : List Int) (p : Int) : List Int := (ws.take (p + 1 + hmany (rd ws p)).toNat).drop (p + 1).toNat
theorem kids_length (ws : List Int) (p : Int) (h0 : 0 ≤ p) (h1 : p + 1 + hmany (rd ws p) ≤ ws.length) : ((kids ws p).length : Int) = hmany (rd ws p) := by
  have := hmany_nonneg (rd ws p)
  unfold kids
  rw [List.length_drop, List.length_take]
  omega
theorem kids_get (ws : List Int) (p : Int) (i : Nat) (h0 : 0 ≤ p) (h1 : p + 1 + hmany (rd ws p) ≤ ws.length) (hi : (i : Int) < hmany (rd ws p)) : rd (kids ws p) (i : Int) = rd ws (p + 1 + i) := by
  show ((ws.take (p + 1 + hmany (rd ws p)).toNat).drop (p + 1).toNat).getD ((i : Int)).toNat 0 = ws.getD (p + 1 + i).toNat 0
  rw [List.getD_eq_getElem?_getD, List.getD_eq_getElem?_getD, List.getElem?_drop, List.getElem?_take]
  have e : (p + 1).toNat + ((i : Int)).toNat = (p + 1 + i).toNat := by omega
  rw [e, if_pos (by omega)]
theorem impl_kidsat_is (ws : List Int) (half base next p : Int) (hl : ws.length ≤ 1048576) (h0 : 0 ≤ p) (h1 : p + 1 + hmany (rd ws p) ≤ ws.length) : impl_kidsAt.f ws half base next p = some (kids ws p) := by
  have hm := hmany_nonneg (rd ws p)
  unfold impl_kidsAt.f
  rw [if_pos h0, if_pos (by omega), impl_header_is]
  simp only [Option.bind_some]
  rw [w64 (n := p + 1) (by omega) (by omega), w64 (n := p + 1 + hmany (rd ws p)) (by omega) (by omega), if_pos (by omega), if_pos (by omega), if_pos h1]
  rfl
def heapOk (ws : List Int) (half base next : Int) : Bool := match blocks ws half base next with
  | none => false
  | some bl => bl.all fun p => (kids ws p).all (there bl)
theorem impl_heapok_ev (ws : List Int) (half base next : Int) (hw : Wide ws) (hl : ws.length ≤ 1048576) (h1 : -9223372036854775808 ≤ half ∧ half ≤ 9223372036854775807) (h2 : -9223372036854775808 ≤ base ∧ base ≤ 9223372036854775807) :
    Ev (fun k => impl_HeapOk.f k ws half base next) (heapOk ws half base next) := by
  unfold impl_HeapOk.f
  refine Ev.bind (blocksOf_ev ws half base next hw hl h1 h2) ?_
  unfold heapOk
  cases hb : blocks ws half base next with
  | none => exact Ev.congr (fun k => if_neg (by simp [pairOf])) (Ev.now _)
  | some bl =>
    refine Ev.congr (fun k => if_pos rfl) ?_
    obtain ⟨hf, hp, hs⟩ := blocks_props hb
    obtain ⟨f1, f2, f3, f4, f5, f6⟩ := hf
    have hbl : bl.length ≤ 1048576 := by
      have := sorted_len bl base next (fun p hq => ⟨(hp p hq).1, by have := (hp p hq).2.2; have := hmany_nonneg (rd ws p); omega⟩) hs f5
      omega
    have key : Ev (fun k => impl_HeapOk.l0 k bl bl (bl.length : Int) (([] : List Int).length : Int) ws half base next) (bl.all fun p => (kids ws p).all (there bl)) := by
      refine zip_ind (x := bl) (fun done rest => Ev (fun k => impl_HeapOk.l0 k bl bl (bl.length : Int) (done.length : Int) ws half base next) (rest.all fun p => (kids ws p).all (there bl))) ?_ ?_
      · exact Ev.step (fun k => by rw [impl_HeapOk.l0, if_neg (by omega)]; rfl) (Ev.now _)
      · intro done p rest hd ih
        have hlen := length_zip done p rest
        have hrd := rd_zip done p rest
        rw [hd] at hlen hrd
        have hpb := hp p (by rw [← hd]; simp)
        have hk := impl_kidsat_is ws half base next p hl (by have := hpb.1; omega) (by have := hpb.2.2; omega)
        refine Ev.step (fun k => by rw [impl_HeapOk.l0, if_pos (by omega), if_pos (by omega), if_pos (by omega), hrd, hk]) ?_
        have hkl := kids_length ws p (by have := hpb.1; omega) (by have := hpb.2.2; omega)
        have hmn := hmany_nonneg (rd ws p)
        have inner : Ev (fun k => impl_HeapOk.l1 k bl bl (bl.length : Int) (done.length : Int) (kids ws p) ((kids ws p).length : Int) (([] : List Int).length : Int) ws half base next) ((kids ws p).all (there bl) && rest.all fun p => (kids ws p).all (there bl)) := by
          refine zip_ind (x := kids ws p) (fun kd kr => Ev (fun k => impl_HeapOk.l1 k bl bl (bl.length : Int) (done.length : Int) (kids ws p) ((kids ws p).length : Int) (kd.length : Int) ws half base next) (kr.all (there bl) && rest.all fun p => (kids ws p).all (there bl))) ?_ ?_
          · simp only [List.all_nil, Bool.true_and]
            refine Ev.step (fun k => ?_) ih
            rw [impl_HeapOk.l1, if_neg (by omega), next_zip _ p (by omega)]
          · intro kd w kr hkd ih2
            have hlen2 := length_zip kd w kr
            have hrd2 := rd_zip kd w kr
            rw [hkd] at hlen2 hrd2
            refine Ev.step (fun k => by rw [impl_HeapOk.l1, if_pos (by omega), if_pos (by omega), if_pos (by omega), hrd2, impl_isint_is, next_zip _ w (by omega), Option.bind_some]) ?_
            simp only [List.all_cons]
            by_cases c : isref w = true
            · have e1 : (!isref w && wok (w / 2)) = false := by rw [c]; rfl
              have e2 : there bl w = decide (w / 2 ∈ bl) := by unfold there; rw [if_pos c]
              rw [e1, e2]
              refine Ev.congr (fun k => if_neg (by decide)) (Ev.bind (impl_isblock_ev bl w hbl hs) ?_)
              rw [c, Bool.true_and]
              cases decide (w / 2 ∈ bl)
              · exact Ev.congr (fun k => if_neg (by decide)) (Ev.now _)
              · exact Ev.congr (fun k => if_pos rfl) (by simpa using ih2)
            · have c' : isref w = false := by simpa using c
              have e1 : (!isref w && wok (w / 2)) = wok (w / 2) := by rw [c']; rfl
              have e2 : there bl w = wok (w / 2) := by unfold there; rw [if_neg c]
              rw [e1, e2]
              cases wok (w / 2)
              · refine Ev.congr (fun k => if_neg (by decide)) (Ev.bind (impl_isblock_ev bl w hbl hs) ?_)
                rw [c', Bool.false_and]
                exact Ev.congr (fun k => if_neg (by decide)) (Ev.now _)
              · exact Ev.congr (fun k => if_pos rfl) (by simpa using ih2)
        simp only [List.all_cons]
        exact inner
    exact key
theorem spec_heapok_ev (ws : List Int) (half base next : Int) (hw : Wide ws) (hl : ws.length ≤ 1048576) (h1 : -9223372036854775808 ≤ half ∧ half ≤ 9223372036854775807) (h2 : -9223372036854775808 ≤ base ∧ base ≤ 9223372036854775807) :
    Ev (fun k => spec_HeapOk.f k ws half base next) (heapOk ws half base next) := by
  have hneg : ¬ hform ws half base next → Ev (fun k => spec_HeapOk.j0 k true ws half base next) (heapOk ws half base next) := by
    intro hn
    rw [show heapOk ws half base next = false by unfold heapOk blocks; rw [if_neg hn]]
    exact Ev.step (fun k => by rw [spec_HeapOk.j0, if_pos rfl]) (Ev.now _)
  refine Ev.congr (f := fun k => if 1 ≤ half ∧ half ≤ 3000 then (if (ws.length : Int) = wrap64 (2 * half) then (if base = 0 ∨ base = half then spec_HeapOk.j0 k (!decide (base ≤ next ∧ next ≤ wrap64 (base + half))) ws half base next else spec_HeapOk.j0 k true ws half base next) else spec_HeapOk.j0 k true ws half base next) else spec_HeapOk.j0 k true ws half base next) (fun k => ?_) ?_
  · rw [spec_HeapOk.f, l1in_is]
    simp only [l1in_is, Option.bind_some, decide_eq_true_eq]
    by_cases c1 : 1 ≤ half ∧ half ≤ 3000
    · rw [if_pos c1, if_pos c1]
      by_cases c2 : (ws.length : Int) = wrap64 (2 * half)
      · rw [if_pos c2, if_pos c2]
        by_cases c3 : base = 0
        · rw [if_pos c3, if_pos (.inl c3)]
        · rw [if_neg c3]
          by_cases c4 : base = half
          · rw [if_pos c4, if_pos (.inr c4)]
          · rw [if_neg c4, if_neg (fun h => h.elim c3 c4)]
      · rw [if_neg c2, if_neg c2]
    · rw [if_neg c1, if_neg c1]
  · by_cases c1 : 1 ≤ half ∧ half ≤ 3000
    · refine Ev.congr (fun k => if_pos c1) ?_
      rw [w64 (n := 2 * half) (by omega) (by omega)]
      by_cases c2 : (ws.length : Int) = 2 * half
      · refine Ev.congr (fun k => if_pos c2) ?_
        by_cases c3 : base = 0 ∨ base = half
        · refine Ev.congr (fun k => if_pos c3) ?_
          rw [w64 (n := base + half) (by omega) (by omega)]
          by_cases c4 : base ≤ next ∧ next ≤ base + half
          · rw [decide_eq_true c4]
            have hf : hform ws half base next := ⟨c1.1, c1.2, c2, c3, c4.1, c4.2⟩
            refine Ev.step (fun k => by rw [spec_HeapOk.j0, if_neg (by decide)]) ?_
            obtain ⟨o, ho, hr⟩ := l17Places_ev ws half base next hw hl hf
            refine Ev.bind ho ?_
            unfold heapOk
            cases hb : blocks ws half base next with
            | none => exact Ev.congr (fun k => if_neg (by simp)) (Ev.now _)
            | some bl =>
              obtain rfl := hr bl hb
              refine Ev.congr (fun k => if_pos rfl) ?_
              obtain ⟨_, hp, hs⟩ := blocks_props hb
              have hbl : o.length ≤ 1048576 := by
                have := sorted_len o base next (fun p hq => ⟨(hp p hq).1, by have := (hp p hq).2.2; have := hmany_nonneg (rd ws p); omega⟩) hs c4.1
                omega
              have key : Ev (fun k => spec_HeapOk.l0 k o (([] : List Int).length : Int) ws half base next) (o.all fun p => (kids ws p).all (there o)) := by
                refine zip_ind (x := o) (fun done rest => Ev (fun k => spec_HeapOk.l0 k o (done.length : Int) ws half base next) (rest.all fun p => (kids ws p).all (there o))) ?_ ?_
                · exact Ev.step (fun k => by rw [spec_HeapOk.l0, if_neg (by omega)]; rfl) (Ev.now _)
                · intro done p rest hd ih
                  have hlen := length_zip done p rest
                  have hrd := rd_zip done p rest
                  rw [hd] at hlen hrd
                  have hpb := hp p (by rw [← hd]; simp)
                  have hb1 := hpb.1
                  have hb2 := hpb.2.2
                  have hmn := hmany_nonneg (rd ws p)
                  refine Ev.step (fun k => by rw [spec_HeapOk.l0, if_pos (by omega), if_pos (by omega), hrd, if_pos (by omega), if_pos (by omega), spec_of_any, Option.bind_some]) ?_
                  have hkl := kids_length ws p (by omega) (by omega)
                  have inner : Ev (fun k => spec_HeapOk.l1 k o (done.length : Int) (hmany (rd ws p)) ((([] : List Int).length : Int) + 1) ws half base next) ((kids ws p).all (there o) && rest.all fun p => (kids ws p).all (there o)) := by
                    refine zip_ind (x := kids ws p) (fun kd kr => Ev (fun k => spec_HeapOk.l1 k o (done.length : Int) (hmany (rd ws p)) ((kd.length : Int) + 1) ws half base next) (kr.all (there o) && rest.all fun p => (kids ws p).all (there o))) ?_ ?_
                    · simp only [List.all_nil, Bool.true_and]
                      refine Ev.step (fun k => ?_) ih
                      rw [spec_HeapOk.l1, if_neg (by omega), next_zip _ p (by omega)]
                    · intro kd w kr hkd ih2
                      have hlen2 := length_zip kd w kr
                      have hrd2 := rd_zip kd w kr
                      rw [hkd] at hlen2 hrd2
                      have hget := kids_get ws p kd.length (by omega) (by omega) (by omega)
                      rw [hrd2] at hget
                      have e1 : wrap64 (p + ((kd.length : Int) + 1)) = p + 1 + kd.length := by rw [w64 (by omega) (by omega)]; omega
                      have e2 : wrap64 ((kd.length : Int) + 1 + 1) = ((kd ++ [w]).length : Int) + 1 := by
                        rw [w64 (by omega) (by omega), List.length_append, List.length_singleton]; omega
                      refine Ev.step (fun k => by rw [spec_HeapOk.l1, if_pos (by omega), if_pos (by omega), if_pos (by omega), hrd, e1, e2, if_pos (by omega), if_pos (by omega), ← hget]) (Ev.bind (spec_there_ev o w hbl) ?_)
                      simp only [List.all_cons]
                      cases there o w
                      · exact Ev.congr (fun k => if_neg (by decide)) (Ev.now _)
                      · exact Ev.congr (fun k => if_pos rfl) (by simpa using ih2)
                  simp only [List.all_cons]
                  exact inner
              exact key
          · rw [decide_eq_false c4]
            exact hneg (fun h => c4 ⟨h.2.2.2.2.1, h.2.2.2.2.2⟩)
        · exact Ev.congr (fun k => if_neg c3) (hneg (fun h => c3 h.2.2.2.1))
      · exact Ev.congr (fun k => if_neg c2) (hneg (fun h => c2 h.2.2.1))
    · exact Ev.congr (fun k => if_neg c1) (hneg (fun h => c1 ⟨h.1, h.2.1⟩))

theorem eqIntS_refl (l : List Int) (hl : l.length ≤ 4611686018427387904) : Ev (fun k => laws_eqIntS.f k l l) true := by
  have key : ∀ (d : Nat) (i : Int), 0 ≤ i → (l.length : Int) - i = d → Ev (fun k => laws_eqIntS.l0 k l l i) true := by
    intro d
    induction d with
    | zero =>
      intro i h0 hd
      exact Ev.step (fun k => by rw [laws_eqIntS.l0, if_neg (by omega)]) (Ev.now _)
    | succ d ih =>
      intro i h0 hd
      refine Ev.step (f := fun k => laws_eqIntS.l0 k l l (i + 1)) (fun k => ?_) (ih (i + 1) (by omega) (by omega))
      rw [laws_eqIntS.l0, if_pos (by omega), if_pos h0, if_pos (by omega), if_pos rfl, w64 (by omega) (by omega)]
  refine Ev.congr (fun k => ?_) (key l.length 0 (by omega) (by omega))
  unfold laws_eqIntS.f; rw [if_pos rfl]

theorem markIntS_ev (l : List Int) (m : Int) (hm : 0 ≤ m) (hl : m + l.length ≤ 4611686018427387904) : Ev (fun k => laws_markIntS.f k l m) (m + l.length, iota m l.length) := by
  have key : ∀ (d : Nat) (xs : List Int) (i : Nat), i + d = xs.length → m + xs.length ≤ 4611686018427387904 → Ev (fun k => laws_markIntS.l0 k xs (m + i) i) (m + xs.length, xs.take i ++ iota (m + i) d) := by
    intro d
    induction d with
    | zero =>
      intro xs i h hb
      have e : ((m + (xs.length : Int), xs.take i ++ iota (m + i) 0) : Int × List Int) = (m + (i : Int), xs) := by
        rw [iota, List.append_nil, List.take_of_length_le (by omega), show xs.length = i by omega]
      rw [e]
      exact Ev.step (fun k => by rw [laws_markIntS.l0, if_neg (by omega)]) (Ev.now _)
    | succ d ih =>
      intro xs i h hb
      have h1 := ih (xs.set i (m + i)) (i + 1) (by rw [List.length_set]; omega) (by rw [List.length_set]; omega)
      rw [List.length_set, set_take_append _ _ _ (by omega), show (m + ((i + 1 : Nat) : Int)) = m + i + 1 by omega] at h1
      rw [show iota (m + i) (d + 1) = (m + i) :: iota (m + i + 1) d from rfl]
      refine Ev.step (fun k => ?_) h1
      rw [laws_markIntS.l0, if_pos (by omega), if_pos (by omega), w64 (by omega) (by omega), w64 (by omega) (by omega), Int.toNat_natCast, show ((i : Int) + 1) = ((i + 1 : Nat) : Int) by omega]
  have h := key l.length l 0 (by omega) hl
  simp only [List.take_zero, List.nil_append, Int.natCast_zero, Int.add_zero] at h
  exact Ev.congr (fun k => rfl) h

theorem heldIntS_ev (m : Int) (n : Nat) (hm : 0 ≤ m) (hl : m + n ≤ 4611686018427387904) : Ev (fun k => laws_heldIntS.f k (iota m n) m) (m + n) := by
  have key : ∀ (d : Nat) (ys : List Int) (i : Nat), ys.drop i = iota (m + i) d → i + d = ys.length → m + ys.length ≤ 4611686018427387904 → Ev (fun k => laws_heldIntS.l0 k ys (m + i) i) (m + ys.length) := by
    intro d
    induction d with
    | zero =>
      intro ys i hd h hb
      rw [show (ys.length : Int) = i by omega]
      exact Ev.step (fun k => by rw [laws_heldIntS.l0, if_neg (by omega)]) (Ev.now _)
    | succ d ih =>
      intro ys i hd h hb
      have hr : rd ys (i : Int) = m + i := rd_drop (by omega) (by rw [Int.toNat_natCast]; exact hd)
      have h1 := ih ys (i + 1) (by
        have h2 := congrArg List.tail hd
        rw [List.tail_drop] at h2
        rw [h2, show (m + ((i + 1 : Nat) : Int)) = m + i + 1 by omega]
        rfl) (by omega) hb
      rw [show (m + ((i + 1 : Nat) : Int)) = m + i + 1 by omega] at h1
      refine Ev.step (fun k => ?_) h1
      rw [laws_heldIntS.l0, if_pos (by omega), if_pos (by omega), if_pos hr, w64 (by omega) (by omega), w64 (by omega) (by omega), show ((i : Int) + 1) = ((i + 1 : Nat) : Int) by omega]
  have h := key n (iota m n) 0 (by simp) (by simp [iota_length]) (by rw [iota_length]; exact hl)
  simp only [Int.natCast_zero, Int.add_zero, iota_length] at h
  exact Ev.congr (fun k => rfl) h

theorem toIntS_ev (l : List Int) (hl : l.length ≤ 1048576) : Ev (fun k => laws_toIntS.f k l) l := by
  have key : ∀ (d : Nat) (ys : List Int) (i : Nat), i + d = l.length → ys.length = l.length → ys.take i = l.take i → Ev (fun k => laws_toIntS.l0 k l ys i) l := by
    intro d
    induction d with
    | zero =>
      intro ys i h hy ht
      have e : ys = l := by
        rw [List.take_of_length_le (by omega), List.take_of_length_le (by omega)] at ht
        exact ht
      subst e
      exact Ev.step (fun k => by rw [laws_toIntS.l0, if_neg (by omega)]) (Ev.now _)
    | succ d ih =>
      intro ys i h hy ht
      have hi : i < l.length := by omega
      have e : (rd l (i : Int)) = l[i] := by
        unfold rd
        rw [Int.toNat_natCast, List.getD_eq_getElem?_getD, List.getElem?_eq_getElem hi, Option.getD_some]
      have h1 := ih (ys.set i (rd l (i : Int))) (i + 1) (by omega) (by rw [List.length_set]; exact hy) (by
        have h2 := set_take_append ys i (rd l (i : Int)) (by omega) []
        rw [List.append_nil] at h2
        rw [h2, ht, e, List.take_add_one, List.getElem?_eq_getElem hi]
        rfl)
      refine Ev.step (fun k => ?_) h1
      rw [laws_toIntS.l0, if_pos (by omega), if_pos (by omega), if_pos (by omega), w64 (by omega) (by omega), Int.toNat_natCast, show ((i : Int) + 1) = ((i + 1 : Nat) : Int) by omega]
  refine Ev.congr (fun k => ?_) (key l.length (List.replicate l.length 0) 0 (by omega) (by simp) (by simp))
  have h1 : 0 ≤ (l.length : Int) := by omega
  have h2 : (l.length : Int).toNat ≤ 35184372088832 := by omega
  unfold laws_toIntS.f
  rw [if_pos h1, Int.toNat_natCast, if_pos (by omega)]
  rfl

/-! ### the law's own helpers at heaps -/
theorem szHeap_is (ws : List Int) (a b c : Int) (left : Int) (h0 : 0 ≤ left) (h1 : left ≤ 1048576) (hl : ws.length ≤ maxLen) : laws_szHeap.f ws a b c left = some (szr ws.length left) := by
  have hm : maxLen = 9223372036854775807 := rfl
  unfold laws_szHeap.f laws_szIntS.f szr
  rw [w64 (by omega) (by omega)]
  by_cases c : (ws.length : Int) ≤ left
  · rw [if_neg (show ¬ (left - (ws.length : Int) < 0) by omega), if_pos c]
    simp only [Option.bind_some]
    rw [if_neg (by omega)]
  · rw [if_pos (show left - (ws.length : Int) < 0 by omega), if_neg c]
    rfl
theorem toHeap_ev (ws : List Int) (a b c : Int) (hl : ws.length ≤ 1048576) : Ev (fun k => laws_toHeap.f k ws a b c) (ws, a, b, c) := by
  unfold laws_toHeap.f
  exact Ev.bind (toIntS_ev ws hl) (Ev.now _)
theorem eqHeap_refl (ws : List Int) (a b c : Int) (hl : ws.length ≤ 1048576) : Ev (fun k => laws_eqHeap.f k ws a b c ws a b c) true := by
  unfold laws_eqHeap.f
  refine Ev.bind (eqIntS_refl ws (by omega)) ?_
  simp only [if_true]
  exact Ev.now _

theorem markHeap_ev (ws : List Int) (a b c : Int) (m : Int) (hm : 0 ≤ m) (hl : m + ws.length ≤ 4611686018427387904) : Ev (fun k => laws_markHeap.f k ws a b c m) (m + ws.length, iota m ws.length) := by
  unfold laws_markHeap.f
  exact Ev.bind (markIntS_ev ws m hm hl) (Ev.now _)
theorem heapOk_blocks {ws : List Int} {half base next : Int} (h : heapOk ws half base next = true) : ∃ bl, blocks ws half base next = some bl := by
  unfold heapOk at h
  cases hb : blocks ws half base next with
  | none => rw [hb] at h; cases h
  | some bl => exact ⟨bl, rfl⟩

/-! ### Alloc -/
theorem heldHeap_ev (a b c : Int) (m : Int) (n : Nat) (hm : 0 ≤ m) (hl : m + n ≤ 4611686018427387904) : Ev (fun k => laws_heldHeap.f k (iota m n) a b c m) (m + n) := by
  unfold laws_heldHeap.f
  refine Ev.bind (heldIntS_ev m n hm hl) ?_
  exact Ev.congr (fun k => if_neg (by omega)) (Ev.now _)
def headW (f : Bool) (tag : Int) (many : Nat) : Int := 2 * (2 * (64 * tag + many) + (if f = true then 1 else 0)) + 1
def allocFit (ws : List Int) (half base next tag : Int) (kids : List Int) : Bool := heapOk ws half base next && decide (0 ≤ tag ∧ tag ≤ 3000) && decide (kids.length ≤ 20) && decide ((kids.length : Int) < base + half - next)
def allocWs (ws : List Int) (next : Int) (f : Bool) (tag : Int) (kids : List Int) : List Int := copyAt (ws.set next.toNat (headW f tag kids.length)) (next + 1).toNat kids
def alloc (ws : List Int) (half base next : Int) (f : Bool) (tag : Int) (kids : List Int) : List Int × Int × Int × Int × Int × Bool :=
  if allocFit ws half base next tag kids = true then (if heapOk (allocWs ws next f tag kids) half base (next + 1 + kids.length) = true then (allocWs ws next f tag kids, half, base, next + 1 + kids.length, next, true) else (ws, half, base, next, 0, false)) else (ws, half, base, next, 0, false)
theorem copyAt_eq (xs : List Int) (lo : Nat) (ys : List Int) (h : lo + ys.length ≤ xs.length) : copyAt xs lo ys = xs.take lo ++ (ys ++ xs.drop (lo + ys.length)) := by
  unfold copyAt
  rw [List.take_of_length_le (l := ys) (by omega)]
theorem copyAt_nil (xs : List Int) (lo : Nat) (h : lo ≤ xs.length) : copyAt xs lo [] = xs := by
  rw [copyAt_eq xs lo [] (by simpa using h)]
  simp
theorem copyAt_snoc (xs : List Int) (lo : Nat) (ys : List Int) (w : Int) (h : lo + ys.length + 1 ≤ xs.length) : (copyAt xs lo ys).set (lo + ys.length) w = copyAt xs lo (ys ++ [w]) := by
  rw [copyAt_eq xs lo ys (by omega), copyAt_eq xs lo (ys ++ [w]) (by rw [List.length_append, List.length_singleton]; omega)]
  have h1 : (xs.take lo).length = lo := by rw [List.length_take]; omega
  rw [List.set_append_right _ _ (by omega), h1, show lo + ys.length - lo = ys.length by omega, List.set_append_right _ _ (Nat.le_refl _), Nat.sub_self, List.drop_eq_getElem_cons (show lo + ys.length < xs.length by omega), List.set_cons_zero, List.length_append, List.length_singleton, List.append_assoc]
  rfl
theorem copyAt_mem (xs : List Int) (lo : Nat) (ys : List Int) (x : Int) (h : x ∈ copyAt xs lo ys) : x ∈ xs ∨ x ∈ ys := by
  unfold copyAt at h
  rcases List.mem_append.1 h with h | h
  · exact .inl (List.mem_of_mem_take h)
  · rcases List.mem_append.1 h with h | h
    · exact .inr (List.mem_of_mem_take h)
    · exact .inl (List.mem_of_mem_drop h)
theorem headW_bound (f : Bool) (tag : Int) (many : Nat) (ht : 0 ≤ tag ∧ tag ≤ 3000) (hm : many ≤ 20) : 0 ≤ headW f tag many ∧ headW f tag many ≤ 768100 := by
  unfold headW
  split <;> omega
theorem allocWs_wide {ws kids : List Int} {next tag : Int} {f : Bool} (hw : Wide ws) (hk : Wide kids) (ht : 0 ≤ tag ∧ tag ≤ 3000) (hm : kids.length ≤ 20) : Wide (allocWs ws next f tag kids) := by
  intro x hx
  have hb := headW_bound f tag kids.length ht hm
  rcases copyAt_mem _ _ _ _ hx with h | h
  · rcases List.mem_or_eq_of_mem_set h with h | rfl
    · exact hw x h
    · omega
  · exact hk x h
theorem allocWs_length {ws kids : List Int} {next tag : Int} {f : Bool} (h : (next + 1).toNat ≤ ws.length) : (allocWs ws next f tag kids).length = ws.length := by
  unfold allocWs
  rw [copyAt_length _ _ _ (by rw [List.length_set]; exact h), List.length_set]
theorem fit_facts {ws : List Int} {half base next tag : Int} {kids : List Int} (h : allocFit ws half base next tag kids = true) : hform ws half base next ∧ (0 ≤ tag ∧ tag ≤ 3000) ∧ kids.length ≤ 20 ∧ (kids.length : Int) < base + half - next := by
  unfold allocFit at h
  simp only [Bool.and_eq_true, decide_eq_true_eq] at h
  obtain ⟨⟨⟨h1, h2⟩, h3⟩, h4⟩ := h
  obtain ⟨bl, hb⟩ := heapOk_blocks h1
  exact ⟨(blocks_props hb).1, h2, h3, h4⟩
theorem impl_copyHeap_is (ws : List Int) (a b c : Int) (hl : ws.length ≤ 1048576) : impl_copyHeap.f ws a b c = some (ws, a, b, c) := by
  unfold impl_copyHeap.f impl_copyInts.f
  rw [if_pos (by simp only [List.length_nil]; omega)]
  rfl
theorem spec_copy_is (ws : List Int) (a b c : Int) (hl : ws.length ≤ 1048576) : spec_l17Copy.f ws a b c = some (ws, a, b, c) := by
  unfold spec_l17Copy.f
  simp only [Option.bind_some]
  rw [if_pos (by simp only [List.length_nil]; omega)]
  rfl
theorem impl_intword_is (n : Int) (h : 0 ≤ n ∧ n ≤ 1073741823) : impl_IntWord.f n = some (2 * n + 1) := by
  unfold impl_IntWord.f
  rw [impl_wordok_is]
  simp only [Option.bind_some]
  rw [show wok n = true from decide_eq_true ⟨by omega, h.2⟩, if_pos rfl, w64 (n := 2 * n) (by omega) (by omega), w64 (by omega) (by omega)]
theorem spec_head_is (f : Bool) (tag : Int) (many : Nat) (ht : 0 ≤ tag ∧ tag ≤ 3000) (hm : many ≤ 20) : spec_l17Head.f f tag many = some (headW f tag many) := by
  unfold spec_l17Head.f spec_l1Bit.f headW
  cases f
  · simp only [Bool.false_eq_true, if_false, Option.bind_some]
    rw [w64 (n := 64 * tag) (by omega) (by omega), w64 (n := 64 * tag + many) (by omega) (by omega), w64 (n := 2 * (64 * tag + many)) (by omega) (by omega), w64 (n := 2 * (64 * tag + many) + 0) (by omega) (by omega), w64 (n := 2 * (2 * (64 * tag + many) + 0)) (by omega) (by omega), w64 (by omega) (by omega)]
  · simp only [if_true, Option.bind_some]
    rw [w64 (n := 64 * tag) (by omega) (by omega), w64 (n := 64 * tag + many) (by omega) (by omega), w64 (n := 2 * (64 * tag + many)) (by omega) (by omega), w64 (n := 2 * (64 * tag + many) + 1) (by omega) (by omega), w64 (n := 2 * (2 * (64 * tag + many) + 1)) (by omega) (by omega), w64 (by omega) (by omega)]
theorem impl_room_ev (ws : List Int) (half base next : Int) (hw : Wide ws) (hl : ws.length ≤ 1048576) (h1 : -9223372036854775808 ≤ half ∧ half ≤ 9223372036854775807) (h2 : -9223372036854775808 ≤ base ∧ base ≤ 9223372036854775807) :
    Ev (fun k => impl_Room.f k ws half base next) (if heapOk ws half base next = true then wrap64 (wrap64 (base + half) - next) else 0) := by
  unfold impl_Room.f
  refine Ev.bind (impl_heapok_ev ws half base next hw hl h1 h2) ?_
  cases heapOk ws half base next
  · exact Ev.congr (fun k => if_neg (by decide)) (Ev.now _)
  · exact Ev.congr (fun k => if_pos rfl) (Ev.now _)
theorem impl_alloc_ev (ws : List Int) (half base next : Int) (f : Bool) (tag : Int) (kids : List Int) (hw : Wide ws) (hk : Wide kids) (hl : ws.length ≤ 1048576) (hkl : kids.length ≤ 1048576) (h1 : -9223372036854775808 ≤ half ∧ half ≤ 9223372036854775807) (h2 : -9223372036854775808 ≤ base ∧ base ≤ 9223372036854775807) :
    Ev (fun k => impl_Alloc.f k ws half base next f tag kids) (alloc ws half base next f tag kids) := by
  have hno : Ev (fun k => impl_Alloc.j0 k f tag kids true ws half base next ws half base next) (ws, half, base, next, (0 : Int), false) := Ev.step (fun k => by rw [impl_Alloc.j0, if_pos rfl]) (Ev.now _)
  refine Ev.congr (fun k => by rw [impl_Alloc.f, impl_copyHeap_is ws half base next hl, Option.bind_some]) (Ev.bind (impl_heapok_ev ws half base next hw hl h1 h2) ?_)
  by_cases c1 : heapOk ws half base next = true
  rotate_left
  · have e : alloc ws half base next f tag kids = (ws, half, base, next, 0, false) := by
      unfold alloc
      rw [if_neg (by unfold allocFit; simp [c1])]
    rw [e]
    exact Ev.congr (fun k => if_neg c1) hno
  refine Ev.congr (fun k => by rw [if_pos c1, within_is, Option.bind_some]) ?_
  by_cases c2 : 0 ≤ tag ∧ tag ≤ 3000
  rotate_left
  · have e : alloc ws half base next f tag kids = (ws, half, base, next, 0, false) := by
      unfold alloc
      rw [if_neg (by unfold allocFit; simp only [decide_eq_false c2]; simp)]
    rw [e]
    exact Ev.congr (fun k => if_neg (by rw [decide_eq_false c2]; decide)) hno
  refine Ev.congr (fun k => if_pos (decide_eq_true c2)) ?_
  by_cases c3 : kids.length ≤ 20
  rotate_left
  · have e : alloc ws half base next f tag kids = (ws, half, base, next, 0, false) := by
      unfold alloc
      rw [if_neg (by unfold allocFit; simp only [decide_eq_false c3]; simp)]
    rw [e]
    exact Ev.congr (fun k => if_pos (by omega)) hno
  obtain ⟨bl, hb⟩ := heapOk_blocks c1
  obtain ⟨f1, f2, f3, f4, f5, f6⟩ := (blocks_props hb).1
  refine Ev.congr (fun k => if_neg (by omega)) (Ev.bind (impl_room_ev ws half base next hw hl h1 h2) ?_)
  rw [if_pos c1, w64 (n := base + half) (by omega) (by omega), w64 (n := base + half - next) (by omega) (by omega), w64 (n := (kids.length : Int) + 1) (by omega) (by omega)]
  by_cases c4 : (kids.length : Int) < base + half - next
  rotate_left
  · have e : alloc ws half base next f tag kids = (ws, half, base, next, 0, false) := by
      unfold alloc
      rw [if_neg (by unfold allocFit; simp only [decide_eq_false c4]; simp)]
    rw [e, decide_eq_true (show (kids.length : Int) + 1 > base + half - next by omega)]
    exact hno
  have hfit : allocFit ws half base next tag kids = true := by
    unfold allocFit
    rw [c1, decide_eq_true c2, decide_eq_true c3, decide_eq_true c4]
    rfl
  rw [decide_eq_false (show ¬ (kids.length : Int) + 1 > base + half - next by omega)]
  have hn0 : 0 ≤ next := by omega
  have hlen := allocWs_length (ws := ws) (kids := kids) (next := next) (tag := tag) (f := f) (by omega)
  have hwd := allocWs_wide (next := next) (f := f) hw hk c2 c3
  have e1 : wrap64 (next + 1) = next + 1 := w64 (by omega) (by omega)
  have e2 : wrap64 (next + wrap64 (1 + (kids.length : Int))) = next + 1 + kids.length := by rw [w64 (n := 1 + (kids.length : Int)) (by omega) (by omega), w64 (by omega) (by omega)]; omega
  have hj1 : ∀ n : Int, 0 ≤ n → n ≤ 1073741823 → 2 * n + 1 = headW f tag kids.length → Ev (fun k => impl_Alloc.j1 k kids n ws half base next ws half base next) (alloc ws half base next f tag kids) := by
    intro n hna hnb hn
    refine Ev.step (fun k => by rw [impl_Alloc.j1, impl_intword_is n ⟨hna, hnb⟩, Option.bind_some, if_pos hn0, if_pos (by omega), e1, if_pos (by omega), if_pos (by omega), Option.bind_some, e2, hn]) ?_
    refine Ev.bind (impl_heapok_ev (allocWs ws next f tag kids) half base (next + 1 + kids.length) hwd (by rw [hlen]; exact hl) h1 h2) ?_
    unfold alloc
    rw [if_pos hfit]
    cases heapOk (allocWs ws next f tag kids) half base (next + 1 + kids.length)
    · exact Ev.congr (fun k => by rw [if_neg (by decide), impl_copyHeap_is ws half base next hl]; rfl) (Ev.now _)
    · exact Ev.congr (fun k => if_pos rfl) (Ev.now _)
  have e3 : wrap64 (2 * wrap64 (wrap64 (64 * tag) + (kids.length : Int))) = 2 * (64 * tag + kids.length) := by
    rw [w64 (n := 64 * tag) (by omega) (by omega), w64 (n := 64 * tag + kids.length) (by omega) (by omega), w64 (by omega) (by omega)]
  cases f
  · exact Ev.step (fun k => by rw [impl_Alloc.j0, if_neg (by decide), if_neg (by decide), e3]) (hj1 _ (by omega) (by omega) (by unfold headW; simp))
  · exact Ev.step (fun k => by rw [impl_Alloc.j0, if_neg (by decide), if_pos rfl, e3, w64 (n := 2 * (64 * tag + kids.length) + 1) (by omega) (by omega)]) (hj1 _ (by omega) (by omega) (by unfold headW; simp))
theorem spec_put_ev (ws : List Int) (half base next : Int) (f : Bool) (tag : Int) (kids : List Int) (hl : ws.length ≤ 1048576) (hf : hform ws half base next) (c2 : 0 ≤ tag ∧ tag ≤ 3000) (c3 : kids.length ≤ 20) :
    Ev (fun k => spec_l17Put.f k ws half base next f tag kids) (if (kids.length : Int) < base + half - next then (allocWs ws next f tag kids, half, base, next + 1 + kids.length, next, true) else (ws, half, base, next, 0, false)) := by
  obtain ⟨f1, f2, f3, f4, f5, f6⟩ := hf
  by_cases c4 : (kids.length : Int) < base + half - next
  rotate_left
  · rw [if_neg c4]
    exact Ev.congr (fun k => by rw [spec_l17Put.f, w64 (n := base + half) (by omega) (by omega), w64 (n := base + half - next) (by omega) (by omega), if_pos (by omega)]) (Ev.now _)
  rw [if_pos c4]
  have hn0 : 0 ≤ next := by omega
  obtain ⟨ws1, hws1⟩ : ∃ ws1, ws1 = ws.set next.toNat (headW f tag kids.length) := ⟨_, rfl⟩
  have hwl : ws1.length = ws.length := by rw [hws1, List.length_set]
  have key : Ev (fun k => spec_l17Put.l0 k kids next (([] : List Int).length : Int) (copyAt ws1 (next + 1).toNat []) half base next) (copyAt ws1 (next + 1).toNat kids, half, base, next + 1 + kids.length, next, true) := by
    refine zip_ind (x := kids) (fun done rest => Ev (fun k => spec_l17Put.l0 k kids next (done.length : Int) (copyAt ws1 (next + 1).toNat done) half base next) (copyAt ws1 (next + 1).toNat kids, half, base, next + 1 + kids.length, next, true)) ?_ ?_
    · exact Ev.step (fun k => by rw [spec_l17Put.l0, if_neg (by omega), w64 (n := next + 1) (by omega) (by omega), w64 (by omega) (by omega)]) (Ev.now _)
    · intro done w rest hd ih
      have hlen := length_zip done w rest
      have hrd := rd_zip done w rest
      rw [hd] at hlen hrd
      have hcl := copyAt_length ws1 (next + 1).toNat done (by omega)
      have e1 : wrap64 (wrap64 (next + 1) + (done.length : Int)) = next + 1 + done.length := by rw [w64 (n := next + 1) (by omega) (by omega), w64 (by omega) (by omega)]
      have e2 : (next + 1 + (done.length : Int)).toNat = (next + 1).toNat + done.length := by omega
      refine Ev.step (fun k => ?_) ih
      rw [spec_l17Put.l0, if_pos (by omega), if_pos (by omega), e1, if_pos (by omega), if_pos (by omega), hrd, next_zip _ w (by omega), e2, copyAt_snoc ws1 _ done w (by omega)]
  rw [copyAt_nil ws1 _ (by omega), hws1] at key
  refine Ev.congr (fun k => ?_) key
  rw [spec_l17Put.f, w64 (n := base + half) (by omega) (by omega), w64 (n := base + half - next) (by omega) (by omega), if_neg (by omega), spec_head_is f tag kids.length c2 c3, Option.bind_some, if_pos hn0, if_pos (by omega)]
  rfl
theorem spec_alloc_ev (ws : List Int) (half base next : Int) (f : Bool) (tag : Int) (kids : List Int) (hw : Wide ws) (hk : Wide kids) (hl : ws.length ≤ 1048576) (hkl : kids.length ≤ 1048576) (h1 : -9223372036854775808 ≤ half ∧ half ≤ 9223372036854775807) (h2 : -9223372036854775808 ≤ base ∧ base ≤ 9223372036854775807) :
    Ev (fun k => spec_Alloc.f k ws half base next f tag kids) (alloc ws half base next f tag kids) := by
  have hcp : ∀ r : List Int × Int × Int × Int × Int × Bool, r = (ws, half, base, next, 0, false) → Ev (fun k => spec_Alloc.j0 k f tag kids true ws half base next) r := by
    rintro r rfl
    exact Ev.step (fun k => by rw [spec_Alloc.j0, if_pos rfl, spec_copy_is ws half base next hl]; rfl) (Ev.now _)
  refine Ev.congr (fun k => by rw [spec_Alloc.f]) (Ev.bind (spec_heapok_ev ws half base next hw hl h1 h2) ?_)
  by_cases c1 : heapOk ws half base next = true
  rotate_left
  · refine Ev.congr (fun k => if_neg c1) (hcp _ ?_)
    unfold alloc
    rw [if_neg (by unfold allocFit; simp [c1])]
  refine Ev.congr (fun k => by rw [if_pos c1, l1in_is, Option.bind_some]) ?_
  by_cases c2 : 0 ≤ tag ∧ tag ≤ 3000
  rotate_left
  · refine Ev.congr (fun k => if_neg (by rw [decide_eq_false c2]; decide)) (hcp _ ?_)
    unfold alloc
    rw [if_neg (by unfold allocFit; simp only [decide_eq_false c2]; simp)]
  refine Ev.congr (fun k => if_pos (decide_eq_true c2)) ?_
  by_cases c3 : kids.length ≤ 20
  rotate_left
  · rw [decide_eq_true (show (kids.length : Int) > 20 by omega)]
    refine hcp _ ?_
    unfold alloc
    rw [if_neg (by unfold allocFit; simp only [decide_eq_false c3]; simp)]
  rw [decide_eq_false (show ¬ (kids.length : Int) > 20 by omega)]
  obtain ⟨bl, hb⟩ := heapOk_blocks c1
  have hf := (blocks_props hb).1
  refine Ev.step (fun k => by rw [spec_Alloc.j0, if_neg (by decide), spec_copy_is ws half base next hl, Option.bind_some]) (Ev.bind (spec_put_ev ws half base next f tag kids hl hf c2 c3) ?_)
  by_cases c4 : (kids.length : Int) < base + half - next
  rotate_left
  · rw [if_neg c4]
    refine Ev.congr (f := fun _ => some (ws, half, base, next, (0 : Int), false)) (fun k => ?_) ?_
    · rw [if_neg (by simp)]
      rfl
    · have e : alloc ws half base next f tag kids = (ws, half, base, next, 0, false) := by
        unfold alloc
        rw [if_neg (by unfold allocFit; simp only [decide_eq_false c4]; simp)]
      rw [e]
      exact Ev.now _
  rw [if_pos c4]
  have hfit : allocFit ws half base next tag kids = true := by
    unfold allocFit
    rw [c1, decide_eq_true c2, decide_eq_true c3, decide_eq_true c4]
    rfl
  obtain ⟨f1, f2, f3, f4, f5, f6⟩ := hf
  have hlen := allocWs_length (ws := ws) (kids := kids) (next := next) (tag := tag) (f := f) (by omega)
  have hwd := allocWs_wide (next := next) (f := f) hw hk c2 c3
  refine Ev.congr (fun k => if_pos rfl) (Ev.bind (spec_heapok_ev (allocWs ws next f tag kids) half base (next + 1 + kids.length) hwd (by rw [hlen]; exact hl) h1 h2) ?_)
  unfold alloc
  rw [if_pos hfit]
  cases heapOk (allocWs ws next f tag kids) half base (next + 1 + kids.length)
  · exact Ev.congr (fun k => by rw [if_neg (by decide)]; rfl) (Ev.now _)
  · exact Ev.congr (fun k => if_pos rfl) (Ev.now _)
theorem alloc_len (ws : List Int) (half base next : Int) (f : Bool) (tag : Int) (kids : List Int) : (alloc ws half base next f tag kids).1.length = ws.length := by
  unfold alloc
  split
  · rename_i h
    obtain ⟨⟨f1, f2, f3, f4, f5, f6⟩, _, _, h4⟩ := fit_facts h
    split
    · exact allocWs_length (by omega)
    · rfl
  · rfl
end Go.Proofs.Ytdpnebdepjdogaa.PureAlloc
namespace Go.Proofs.Ytdpnebdepjdogaa.Pure
open Go.RowKit Go.Proofs.Ytdpnebdepjdogaa.QFnExactAlloc Go.Proofs.Ytdpnebdepjdogaa.Aid Go.Proofs.YtdpnebdepjdogaaW.PrintWords Go.Proofs.YtdpnebdepjdogaaW.PrintLast Go.Proofs.YtdpnebdepjdogaaW.PrintMore Go.Proofs.Ytdpnebdepjdogaa.PureAlloc Go.Proofs.Ytdpnebdepjdogaa.WfFnExactAlloc
set_option linter.unusedVariables false
set_option linter.unusedSimpArgs false

theorem FnExactAlloc : WfFnExactAlloc.Pure := by
  intro x f tag kids hw ht hks
  obtain ⟨hws, h1, h2, h3⟩ := hw
  have h1' := of_wf_i64 h1
  have h2' := of_wf_i64 h2
  have h3' := of_wf_i64 h3
  have hwide : Wide x.f0 := fun y hy => of_wf_i64 (hws.2 y hy)
  have ht' := of_wf_i64 ht
  have hkw : Wide kids := fun y hy => of_wf_i64 (hks.2 y hy)
  refine Ev.rounds (g := fun k => laws_FnExactAlloc.f k x.f0 x.f1 x.f2 x.f3 f tag kids) ?_
  by_cases c0 : (kids.length : Int) > 1048576
  · exact Ev.congr (fun k => by rw [laws_FnExactAlloc.f, if_pos c0]) (Ev.now _)
  have hkl : kids.length ≤ 1048576 := by omega
  by_cases c : szr x.f0.length 1048576 < 0
  · exact Ev.congr (fun k => by rw [laws_FnExactAlloc.f, if_neg c0, szHeap_is _ _ _ _ _ (by omega) (by omega) hws.1, Option.bind_some, if_pos c]) (Ev.now _)
  have hl : x.f0.length ≤ 1048576 := by have := (szr_pos c).1; omega
  have th := toHeap_ev x.f0 x.f1 x.f2 x.f3 hl
  have tk := toIntS_ev kids hkl
  have hs := spec_alloc_ev x.f0 x.f1 x.f2 x.f3 f tag kids hwide hkw hl hkl h1' h2'
  have hi := impl_alloc_ev x.f0 x.f1 x.f2 x.f3 f tag kids hwide hkw hl hkl h1' h2'
  have hrl := alloc_len x.f0 x.f1 x.f2 x.f3 f tag kids
  obtain ⟨⟨ra, rb, rc, rdd, rp, rk⟩, hr⟩ : ∃ r, alloc x.f0 x.f1 x.f2 x.f3 f tag kids = r := ⟨_, rfl⟩
  rw [hr] at hs hi hrl
  have hrl' : ra.length = x.f0.length := hrl
  have hra : ra.length ≤ 1048576 := by omega
  refine Ev.congr (fun k => by rw [laws_FnExactAlloc.f, if_neg c0, szHeap_is _ _ _ _ _ (by omega) (by omega) hws.1, Option.bind_some, if_neg c]) (Ev.bind th (Ev.bind tk (Ev.bind hs (Ev.bind th (Ev.bind tk (Ev.bind hi (Ev.bind (eqHeap_refl ra rb rc rdd hra) ?_)))))))
  refine Ev.congr (fun k => by rw [if_pos rfl, if_pos rfl]) ?_
  refine Ev.step (fun k => by rw [laws_FnExactAlloc.j0, if_neg (by simp)]) (Ev.bind th (Ev.bind (eqHeap_refl x.f0 x.f1 x.f2 x.f3 hl) ?_))
  refine Ev.congr (fun k => if_pos rfl) (Ev.bind tk (Ev.bind (eqIntS_refl kids (by omega)) ?_))
  refine Ev.congr (fun k => if_pos rfl) (Ev.bind (markHeap_ev x.f0 x.f1 x.f2 x.f3 1 (by omega) (by omega)) (Ev.bind (markIntS_ev kids (1 + x.f0.length) (by omega) (by omega)) ?_))
  refine Ev.congr (fun k => if_neg (by show ¬ (1 + (x.f0.length : Int) + kids.length < 0); omega)) (Ev.bind (eqHeap_refl ra rb rc rdd hra) ?_)
  refine Ev.congr (fun k => by rw [if_pos rfl, if_pos rfl]) ?_
  refine Ev.step (fun k => by rw [laws_FnExactAlloc.j1, if_neg (by simp)]) (Ev.bind (markHeap_ev ra rb rc rdd 1 (by omega) (by omega)) (Ev.bind (heldHeap_ev rb rc rdd 1 ra.length (by omega) (by omega)) ?_))
  refine Ev.congr (fun k => by rw [if_neg (by omega), if_pos rfl]) (Ev.bind th (Ev.bind tk (Ev.bind hi (Ev.bind (eqHeap_refl ra rb rc rdd hra) ?_))))
  refine Ev.congr (fun k => by rw [if_pos rfl, if_pos rfl]) ?_
  refine Ev.step (fun k => by rw [laws_FnExactAlloc.j2, if_neg (by simp)]) (Ev.bind (heldHeap_ev rb rc rdd 1 ra.length (by omega) (by omega)) ?_)
  exact Ev.congr (fun k => by rw [if_neg (by omega), if_pos rfl]) (Ev.now _)
end Go.Proofs.Ytdpnebdepjdogaa.Pure
