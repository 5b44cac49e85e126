/- Drawn numbers and places are read from their words as they were, and a word is one of both, as the statement has it, for every draw. No conditions. -/
import Derived.Test.YtmoaonpggckbiaaWfFnWords
import Derived.Test.YtmoaonpggckbiaaAid
namespace Go.Proofs.Ytmoaonpggckbiaa.PureWords
open Go.RowKit Go.Proofs.Ytmoaonpggckbiaa.QFnWords Go.Proofs.Ytmoaonpggckbiaa.Aid Go.Proofs.YtmoaonpggckbiaaW.PrintWords Go.Proofs.YtmoaonpggckbiaaW.PrintLast Go.Proofs.YtmoaonpggckbiaaW.PrintMore
set_option linter.unusedVariables false
set_option linter.unusedSimpArgs false

/-! ### the cursor of a draw -/
/-- A cursor stands in its bytes. -/
def Cur (b : List Int) (i : Int) : Prop := 0 ≤ i ∧ i ≤ b.length ∧ b.length ≤ 1048576
theorem l1Byte_ok (b : List Int) (i h : Int) (hc : Cur b i) : ∃ r i' h', spec_l1Byte.f b i h = some (r, i', h') ∧ 0 ≤ r ∧ r ≤ 255 ∧ Cur b i' := by
  obtain ⟨h1, h2, h3⟩ := hc
  have hm : ∀ x : Int, 0 ≤ Go.bits .and .i64 x 255 ∧ Go.bits .and .i64 x 255 ≤ 255 := fun x => by
    have e : Go.bits .and .i64 x 255 = x % 256 := and_mask x 8 (by decide)
    rw [e]
    omega
  unfold spec_l1Byte.f
  by_cases c : i < b.length
  · rw [if_pos c, if_pos h1]
    refine ⟨_, _, _, rfl, (hm _).1, (hm _).2, ?_⟩
    rw [w64 (by omega) (by omega)]
    exact ⟨by omega, by omega, h3⟩
  · rw [if_neg c]
    exact ⟨_, _, _, rfl, (hm _).1, (hm _).2, h1, h2, h3⟩
theorem l1Below_ok (b : List Int) (i h n : Int) (hc : Cur b i) (hn : n ≤ 4611686018427387904) : ∃ r i' h', spec_l1Below.f b i h n = some (r, i', h') ∧ (0 < n → 0 ≤ r ∧ r < n) ∧ (n ≤ 0 → r = 0) ∧ Cur b i' := by
  unfold spec_l1Below.f
  by_cases c : n ≤ 0
  · rw [if_pos c]
    exact ⟨_, _, _, rfl, fun h => by omega, fun _ => rfl, hc⟩
  rw [if_neg c]
  by_cases c2 : n ≤ 256
  · rw [if_pos c2]
    obtain ⟨r, i', h', e, hr0, hr1, hc'⟩ := l1Byte_ok b i h hc
    rw [e]
    simp only [Option.bind_some]
    rw [if_neg (by omega), Int.tmod_eq_emod_of_nonneg hr0]
    exact ⟨_, _, _, rfl, fun _ => ⟨Int.emod_nonneg _ (by omega), Int.emod_lt_of_pos _ (by omega)⟩, fun h => absurd h c, hc'⟩
  · rw [if_neg c2]
    obtain ⟨x, i1, h1, e1, hx0, hx1, hc1⟩ := l1Byte_ok b i h hc
    obtain ⟨y, i2, h2, e2, hy0, hy1, hc2⟩ := l1Byte_ok b i1 h1 hc1
    obtain ⟨z, i3, h3, e3, hz0, hz1, hc3⟩ := l1Byte_ok b i2 h2 hc2
    obtain ⟨w, i4, h4, e4, hw0, hw1, hc4⟩ := l1Byte_ok b i3 h3 hc3
    simp only [e1, e2, e3, e4, Option.bind_some]
    rw [if_neg (by omega)]
    have v1 : wrap64 (x * 16777216) = x * 16777216 := w64 (by omega) (by omega)
    have v2 : wrap64 (y * 65536) = y * 65536 := w64 (by omega) (by omega)
    have v3 : wrap64 (z * 256) = z * 256 := w64 (by omega) (by omega)
    have v4 : wrap64 (x * 16777216 + y * 65536) = x * 16777216 + y * 65536 := w64 (by omega) (by omega)
    have v5 : wrap64 (x * 16777216 + y * 65536 + z * 256) = x * 16777216 + y * 65536 + z * 256 := w64 (by omega) (by omega)
    have v6 : wrap64 (x * 16777216 + y * 65536 + z * 256 + w) = x * 16777216 + y * 65536 + z * 256 + w := w64 (by omega) (by omega)
    rw [v1, v2, v3, v4, v5, v6, Int.tmod_eq_emod_of_nonneg (by omega)]
    exact ⟨_, _, _, rfl, fun _ => ⟨Int.emod_nonneg _ (by omega), Int.emod_lt_of_pos _ (by omega)⟩, fun h => absurd h c, hc4⟩
theorem l1New_ok (b : List Int) (hb : b.length ≤ 1048576) : ∃ h, Ev (fun k => spec_l1New.f k b) (b, 0, h) := by
  have key : ∀ (d : Nat) (x i : Int), 0 ≤ i → (b.length : Int) - i = d → ∃ h, Ev (fun k => spec_l1New.l0 k b x i) (b, 0, h) := by
    intro d
    induction d with
    | zero =>
      intro x i h0 hd
      exact ⟨x, Ev.step (fun k => by rw [spec_l1New.l0, if_neg (by omega)]) (Ev.now _)⟩
    | succ d ih =>
      intro x i h0 hd
      by_cases c : i < 4000
      · obtain ⟨h, hh⟩ := ih (Go.bits .and .i64 (wrap64 ((wrap64 ((wrap64 (x * 131)) + (wrap64 (rd b i)))) + 7)) 1073741823) (i + 1) (by omega) (by omega)
        refine ⟨h, Ev.step (fun k => ?_) hh⟩
        rw [spec_l1New.l0, if_pos (by omega), if_pos c, if_pos h0, w64 (n := i + 1) (by omega) (by omega)]
      · refine ⟨x, Ev.step (fun k => ?_) (Ev.now _)⟩
        rw [spec_l1New.l0, if_pos (by omega), if_neg c]
  obtain ⟨h, hh⟩ := key b.length (wrap64 (24659 + (b.length : Int))) 0 (by omega) (by omega)
  exact ⟨h, Ev.congr (fun k => rfl) hh⟩
theorem cur0 (b : List Int) (hb : b.length ≤ 1048576) : Cur b 0 := ⟨by omega, by omega, hb⟩

theorem l1PickInt_ok (b : List Int) (i h : Int) (l : List Int) (hc : Cur b i) (hl : 0 < l.length) (hl2 : l.length ≤ 1048576) : ∃ r i' h', spec_l1PickInt.f b i h l = some (r, i', h') ∧ r ∈ l ∧ Cur b i' := by
  obtain ⟨r, i', h', e, hr, _, hc'⟩ := l1Below_ok b i h l.length hc (by omega)
  obtain ⟨h0, h1⟩ := hr (by omega)
  unfold spec_l1PickInt.f
  rw [e]
  simp only [Option.bind_some]
  rw [if_pos h0, if_pos h1]
  refine ⟨_, _, _, rfl, ?_, hc'⟩
  unfold rd
  rw [List.getD_eq_getElem?_getD, List.getElem?_eq_getElem (by omega), Option.getD_some]
  exact List.getElem_mem _

theorem isref_is (x : Int) : spec_IsRef.f x = impl_IsRef.f x := rfl
theorem odd_ref (x : Int) : impl_IsRef.f (2 * x + 1) = some false := by
  unfold impl_IsRef.f
  have e : Go.bits .and .i64 (2 * x + 1) 1 = (2 * x + 1) % 2 := and_mask (2 * x + 1) 1 (by decide)
  rw [e, show (2 * x + 1) % 2 = 1 by omega]
  rfl
theorem even_ref (x : Int) : impl_IsRef.f (2 * x) = some true := by
  unfold impl_IsRef.f
  have e : Go.bits .and .i64 (2 * x) 1 = (2 * x) % 2 := and_mask (2 * x) 1 (by decide)
  rw [e, show (2 * x) % 2 = 0 by omega]
  rfl
def wok (n : Int) : Bool := decide (-1073741824 ≤ n ∧ n ≤ 1073741823)
theorem wordok_is (n : Int) : impl_WordOk.f n = some (wok n) ∧ spec_WordOk.f n = some (wok n) := by
  unfold impl_WordOk.f impl_within.f spec_WordOk.f spec_l1In.f wok
  by_cases c : n ≥ -1073741824
  · by_cases d : n ≤ 1073741823 <;> simp [c, d]
  · have : ¬ -1073741824 ≤ n := by omega
    simp [c, this]
def iw (n : Int) : Int := if wok n = true then 2 * n + 1 else 1
theorem intword_is (n : Int) : impl_IntWord.f n = some (iw n) ∧ spec_IntWord.f n = some (iw n) := by
  unfold impl_IntWord.f spec_IntWord.f iw
  rw [(wordok_is n).1, (wordok_is n).2]
  simp only [Option.bind_some]
  by_cases c : wok n = true
  · have h : -1073741824 ≤ n ∧ n ≤ 1073741823 := of_decide_eq_true c
    rw [if_pos c, if_pos c, w64 (n := 2 * n) (by omega) (by omega), w64 (by omega) (by omega)]
    exact ⟨rfl, rfl⟩
  · rw [if_neg c, if_neg c]
    exact ⟨rfl, rfl⟩
def rw_ (p : Int) : Int := if 0 ≤ p ∧ p ≤ 6000 then 2 * p else 0
theorem refword_is (p : Int) : impl_RefWord.f p = some (rw_ p) ∧ spec_RefWord.f p = some (rw_ p) := by
  unfold impl_RefWord.f spec_RefWord.f impl_within.f spec_l1In.f rw_
  by_cases c : p ≥ 0
  · by_cases d : p ≤ 6000
    · rw [if_pos c, decide_eq_true d]
      simp only [Option.bind_some, if_true]
      rw [w64 (by omega) (by omega), if_pos ⟨c, d⟩]
      exact ⟨rfl, rfl⟩
    · rw [if_pos c, decide_eq_false d, if_neg (fun h => d h.2)]
      exact ⟨rfl, rfl⟩
  · rw [if_neg c, if_neg (fun h => c h.1)]
    exact ⟨rfl, rfl⟩
theorem pickany (b : List Int) (hb : b.length ≤ 1048576) (l : List Int) (h0 : 0 < l.length) (h1 : l.length ≤ 1048576) : ∃ r h, Ev (fun k => spec_l1New.f k b) (b, 0, h) ∧ ∃ i' h', spec_l1PickInt.f b 0 h l = some (r, i', h') := by
  obtain ⟨h, hh⟩ := l1New_ok b hb
  obtain ⟨r, i', h', e, _, _⟩ := l1PickInt_ok b 0 h l (cur0 b hb) h0 h1
  exact ⟨r, h, hh, i', h', e⟩
end Go.Proofs.Ytmoaonpggckbiaa.PureWords
namespace Go.Proofs.Ytmoaonpggckbiaa.Pure
open Go.RowKit Go.Proofs.Ytmoaonpggckbiaa.QFnWords Go.Proofs.Ytmoaonpggckbiaa.Aid Go.Proofs.YtmoaonpggckbiaaW.PrintWords Go.Proofs.YtmoaonpggckbiaaW.PrintLast Go.Proofs.YtmoaonpggckbiaaW.PrintMore Go.Proofs.Ytmoaonpggckbiaa.PureWords
set_option linter.unusedVariables false
set_option linter.unusedSimpArgs false

theorem FnWords : WfFnWords.Pure := by
  intro l hw
  refine Ev.rounds (g := fun k => laws_FnWords.f k l) ?_
  unfold laws_FnWords.f
  by_cases hb : (l.length : Int) > 1048576
  · exact Ev.congr (fun k => by rw [laws_big.f, decide_eq_true hb]; rfl) (Ev.now _)
  have hlen : l.length ≤ 1048576 := by omega
  obtain ⟨n, h1, e1, i1, j1, q1⟩ := pickany l hlen [0, 1, (-1), 5, 1073741823, 1073741824, (-1073741824), (-1073741825), 9223372036854775807, (-9223372036854775808)] (by decide) (by decide)
  obtain ⟨p, h2, e2, i2, j2, q2⟩ := pickany l hlen [0, 1, 5, 6000, 6001, (-1), 9223372036854775807] (by decide) (by decide)
  obtain ⟨x, h3, e3, i3, j3, q3⟩ := pickany l hlen [0, 1, 3, (-1), (-3), 11, 9223372036854775807, (-9223372036854775808)] (by decide) (by decide)
  obtain ⟨z, h4, e4, i4, j4, q4⟩ := pickany l hlen [0, 1, 2, 3, (-1), (-2), 9223372036854775807] (by decide) (by decide)
  have d1 : Ev (fun k => spec_DrawIntWord.f k l) n := by
    unfold spec_DrawIntWord.f
    refine Ev.bind e1 ?_
    simp only [spec_l1DrawAny.f, q1, Option.bind_some]
    exact Ev.now _
  have d2 : Ev (fun k => spec_DrawRefWord.f k l) p := by
    unfold spec_DrawRefWord.f
    refine Ev.bind e2 ?_
    simp only [q2, Option.bind_some]
    exact Ev.now _
  have d3 : Ev (fun k => spec_DrawWordInt.f k l) x := by
    unfold spec_DrawWordInt.f
    refine Ev.bind e3 ?_
    simp only [q3, Option.bind_some]
    exact Ev.now _
  have d3' : Ev (fun k => spec_DrawWordRef.f k l) x := by
    unfold spec_DrawWordRef.f
    exact Ev.bind d3 (Ev.now _)
  have d4 : Ev (fun k => spec_DrawIsRef.f k l) z := by
    unfold spec_DrawIsRef.f
    refine Ev.bind e4 ?_
    simp only [q4, Option.bind_some]
    exact Ev.now _
  refine Ev.congr (fun k => by rw [laws_big.f, decide_eq_false hb]; rfl) (Ev.bind d1 (Ev.bind d2 ?_))
  simp only [(intword_is n).1, (intword_is n).2, (refword_is p).1, (refword_is p).2, Option.bind_some]
  refine Ev.bind d3 (Ev.bind d3' (Ev.bind d4 ?_))
  simp only [impl_WordInt.f, spec_WordInt.f, impl_WordRef.f, spec_WordRef.f, isref_is, Option.bind_some, if_true]
  have hodd : impl_IsRef.f (iw n) = some false := by
    unfold iw
    split
    · exact odd_ref n
    · exact odd_ref 0
  have heven : impl_IsRef.f (rw_ p) = some true := by
    unfold rw_
    split
    · exact even_ref p
    · exact even_ref 0
  obtain ⟨bz, hz⟩ : ∃ bz, impl_IsRef.f z = some bz := ⟨_, rfl⟩
  rw [hz]
  simp only [Option.bind_some, bne_self_eq_false]
  refine Ev.step (fun k => by rw [laws_FnWords.j0]) ?_
  simp only [Bool.false_eq_true, if_false, hodd, heven, (wordok_is n).1, Option.bind_some, if_true, impl_WordInt.f, impl_WordRef.f]
  have hp : ¬ p < 0 → ¬ p > 6000 → rw_ p / 2 = p := by
    intro a b
    unfold rw_
    rw [if_pos ⟨by omega, by omega⟩]
    omega
  have hn : wok n = true → iw n / 2 = n := by
    intro c
    unfold iw
    rw [if_pos c]
    omega
  refine Ev.congr (f := fun _ => some true) (fun k => ?_) (Ev.now _)
  by_cases c1 : wok n = true
  · rw [if_pos c1, if_pos (hn c1)]
    by_cases c2 : p < 0
    · rw [if_pos c2]
    · rw [if_neg c2]
      by_cases c3 : p > 6000
      · rw [if_pos c3]
      · rw [if_neg c3, hp c2 c3, beq_self_eq_true]
  · rw [if_neg c1]
    by_cases c2 : p < 0
    · rw [if_pos c2]
    · rw [if_neg c2]
      by_cases c3 : p > 6000
      · rw [if_pos c3]
      · rw [if_neg c3, hp c2 c3, beq_self_eq_true]
end Go.Proofs.Ytmoaonpggckbiaa.Pure
