/- What came in and reads as data of a type is what that type's kind says: plain lemmas, each under the conditions that it names. -/
import Derived.Test.YtdpnebdepjdogaaVFnExactAllocMore
import Derived.ChangeArms
import Derived.DataReads
import Derived.WideShapes
namespace Go.Proofs.Ytdpnebdepjdogaa.Open
open Go.RowKit Go.WideShapes Go.Proofs.YtdpnebdepjdogaaW.PrintWords
set_option linter.unusedVariables false
set_option linter.unusedSimpArgs false

/-- What reads as type t within n steps is what kind d says of some value with wf. -/
def Opens {α H : Type} (enc : TypeId × Value → H) (P : Program) (W : World) (n : Nat) (t : TypeId) (d : Kd α) (wf : α → Prop) : Prop :=
  ∀ fuel cs x, fuel ≤ n → DataW.trod enc P W 0 (fun _ => true) true fuel t cs = some x → ∃ a, d.K W a cs ∧ wf a

section
variable {H : Type} {enc : TypeId × Value → H} {P : Program} {W : World} {n : Nat} {t : TypeId}

theorem Opens.le {α : Type} {d : Kd α} {wf : α → Prop} {m : Nat} (h : Opens enc P W n t d wf) (hm : m ≤ n) : Opens enc P W m t d wf :=
  fun fuel cs x hf hx => h fuel cs x (by omega) hx
theorem Opens.imp {α : Type} {d : Kd α} {wf wf' : α → Prop} (h : Opens enc P W n t d wf) (hw : ∀ a, wf a → wf' a) : Opens enc P W n t d wf' :=
  fun fuel cs x hf hx => by
    obtain ⟨a, ha, hb⟩ := h fuel cs x hf hx
    exact ⟨a, ha, hw a hb⟩
theorem opens_zero {α : Type} {d : Kd α} {wf : α → Prop} : Opens enc P W 0 t d wf := fun fuel cs x hf hx => by
  obtain rfl : fuel = 0 := by omega
  simp [DataW.trod] at hx

theorem opens_int {k : IntKind} (hu : P.underlying t = some (.int k)) : Opens enc P W n t (Kd.int k) (fun a => (Lit.int k a).wf = true) := by
  intro fuel cs x _ h
  obtain ⟨a, rfl, _, hw⟩ := DataW.trod_int hu h
  exact ⟨a, rfl, hw⟩
theorem opens_bool (hu : P.underlying t = some .bool) : Opens enc P W n t Kd.bool (fun _ => True) := by
  intro fuel cs x _ h
  obtain ⟨a, rfl, _⟩ := DataW.trod_bool hu h
  exact ⟨a, rfl, trivial⟩
theorem opens_string (hu : P.underlying t = some .string) : Opens enc P W n t Kd.string (fun s => s.size ≤ maxLen) := by
  intro fuel cs x _ h
  obtain ⟨a, rfl, _, hw⟩ := DataW.trod_string hu h
  exact ⟨a, rfl, hw⟩

theorem choose_list {α : Type} {Q : Nat → α → Prop} : ∀ len : Nat, (∀ i, i < len → ∃ z, Q i z) → ∃ xs : List α, xs.length = len ∧ ∀ (i : Nat) (z : α), xs[i]? = some z → Q i z
  | 0, _ => ⟨[], rfl, fun i z h => by simp at h⟩
  | len + 1, h => by
    obtain ⟨xs, hl, hx⟩ := choose_list len (fun i hi => h i (by omega))
    obtain ⟨z, hz⟩ := h len (by omega)
    refine ⟨xs ++ [z], by simp [hl], fun i y hy => ?_⟩
    rcases Nat.lt_or_ge i xs.length with hi | hi
    · rw [List.getElem?_append_left hi] at hy
      exact hx i y hy
    · have hi2 : i = xs.length := by
        have := (List.getElem?_eq_some_iff.1 hy).1
        simp at this
        omega
      subst hi2
      have : z = y := by simpa using hy
      subst this
      rw [hl]
      exact hz

theorem opens_slice {α : Type} {e : TypeId} {d : Kd α} {wf : α → Prop} (hu : P.underlying t = some (.slice e)) (hc : P.cellsOf e = d.sz) (h : Opens enc P W n e d wf) :
    Opens enc P W n t (Kd.slice e d) (fun xs => xs.length ≤ maxLen ∧ ∀ x ∈ xs, wf x) := by
  intro fuel cs x hf hx
  rcases DataW.trod_slice hu hx with ⟨rfl, _⟩ | ⟨a, len, cap, elems, rest, m, rfl, rfl, _, _, hlc, hcm, hel, helem, _, _⟩
  · exact ⟨[], ⟨none, 0, rfl, Nat.le_refl _, rfl, by simp, fun hp => absurd hp (by simp)⟩, by simp, fun x hx => by simp at hx⟩
  · have hq : ∀ i, i < len → ∃ z, wf z ∧ ∃ c, c.length = d.sz ∧ d.K W z c ∧ ∀ j u, c[j]? = some u → W.cell? (a.add (i * d.sz + j)) = some u := by
      intro i hi
      have h1 := helem i hi
      rw [List.getElem?_eq_getElem (by omega)] at h1
      obtain ⟨c, hc1, hc2⟩ := Option.bind_eq_some_iff.1 h1
      obtain ⟨z, hz, hw⟩ := h m c _ (by omega) hc2
      obtain ⟨_, hcl, hcell⟩ := World.cells?_some hc1
      refine ⟨z, hw, c, d.K_len hz, hz, fun j u hj => ?_⟩
      have hjl := (List.getElem?_eq_some_iff.1 hj).1
      have h2 := hcell j (by omega)
      rw [add_add, hc, hj] at h2
      exact h2
    obtain ⟨xs, hxl, hxs⟩ := choose_list len hq
    have hml : maxLen = 9223372036854775807 := rfl
    refine ⟨xs, ⟨some a, cap, by rw [hxl], by omega, rfl, by omega, fun _ => ⟨a, rfl, fun j p hj => ?_⟩⟩, by omega, fun x hx => ?_⟩
    · exact (hxs j p hj).2
    · obtain ⟨i, hi, rfl⟩ := List.mem_iff_getElem.1 hx
      exact (hxs i _ (List.getElem?_eq_getElem hi)).1

/-- The fields from cell off on, one behind the other, sz cells in all. -/
def OpensF {α H : Type} (enc : TypeId × Value → H) (P : Program) (W : World) (n : Nat) (fs : List Field) (off sz : Nat) (d : Kd α) (wf : α → Prop) : Prop :=
  ∀ cs : List Value, cs.length = off + sz → (∀ f ∈ fs, ∃ fuel x, fuel ≤ n ∧ DataW.trod enc P W 0 (fun _ => true) true fuel f.type ((cs.drop f.offset).take (P.cellsOf f.type)) = some x) →
    ∃ a, d.K W a (cs.drop off) ∧ wf a

theorem opens_last {α : Type} {f : Field} {d : Kd α} {wf : α → Prop} {off sz : Nat} (ho : f.offset = off) (hs : P.cellsOf f.type = sz) (h : Opens enc P W n f.type d wf) : OpensF enc P W n [f] off sz d wf := by
  intro cs hl hf
  obtain ⟨fuel, x, hn, hx⟩ := hf f (by simp)
  rw [ho, hs, List.take_of_length_le (by simp; omega)] at hx
  exact h fuel _ _ hn hx
theorem opens_cons {α β : Type} {f : Field} {fs : List Field} {d1 : Kd α} {d2 : Kd β} {wf1 : α → Prop} {wf2 : β → Prop} {off s1 sz : Nat} (ho : f.offset = off) (hs : P.cellsOf f.type = s1)
    (h : Opens enc P W n f.type d1 wf1) (hr : OpensF enc P W n fs (off + s1) sz d2 wf2) : OpensF enc P W n (f :: fs) off (s1 + sz) (Kd.pair d1 d2) (fun a => wf1 a.1 ∧ wf2 a.2) := by
  intro cs hl hf
  obtain ⟨fuel, x, hn, hx⟩ := hf f (by simp)
  rw [ho, hs] at hx
  obtain ⟨a, ha, hw⟩ := h fuel _ _ hn hx
  obtain ⟨b, hb, hv⟩ := hr cs (by omega) (fun g hg => hf g (by simp [hg]))
  refine ⟨(a, b), ⟨(cs.drop off).take s1, cs.drop (off + s1), ?_, ha, hb⟩, hw, hv⟩
  rw [← List.drop_drop, List.take_append_drop]
theorem opens_struct {α : Type} {fs : Array Field} {d : Kd α} {wf : α → Prop} {sz : Nat} (hu : P.underlying t = some (.struct fs)) (hc : P.cellsOf t = sz) (h : OpensF enc P W n fs.toList 0 sz d wf) : Opens enc P W (n + 1) t d wf := by
  intro fuel cs x hf hx
  obtain ⟨xs, m, rfl, _, hl, hxl, hfs⟩ := DataW.trod_struct hu hx
  obtain ⟨a, ha, hw⟩ := h cs (by omega) (fun f hf2 => by
    obtain ⟨i, hi, rfl⟩ := List.mem_iff_getElem.1 hf2
    have hi2 : i < fs.size := by simpa using hi
    have h1 := hfs i fs[i] (by simp [hi2])
    rw [List.getElem?_eq_getElem (by omega)] at h1
    exact ⟨m, _, by omega, by simpa using h1⟩)
  exact ⟨a, by simpa using ha, hw⟩
theorem opens_iso {α β : Type} {d : Kd α} {wf : α → Prop} {wf' : β → Prop} (f : β → α) (g : α → β) (hg : ∀ a, f (g a) = a) (hw : ∀ a, wf a → wf' (g a)) (h : Opens enc P W n t d wf) : Opens enc P W n t (Kd.iso d f) wf' := by
  intro fuel cs x hf hx
  obtain ⟨a, ha, hb⟩ := h fuel cs x hf hx
  refine ⟨g a, ?_, hw a hb⟩
  show d.K W (f (g a)) cs
  rw [hg]
  exact ha
/-- A type nested in itself. -/
theorem opens_fix {α : Type} {F : Kd α → Kd α} {sz : Nat} {E : List Nat} {hs : ∀ n, (Kd.upto F sz E n).sz = sz} {hE : ∀ n q, q ∈ (Kd.upto F sz E n).E → q ∈ E} {wf : α → Prop}
    (step : ∀ m (d : Kd α), d.sz = sz → Opens enc P W m t d wf → Opens enc P W (m + 1) t (F d) wf) : ∀ n, Opens enc P W n t (Kd.fix F sz E hs hE) wf := by
  have key : ∀ m, Opens enc P W m t (Kd.upto F sz E m) wf := by
    intro m
    induction m with
    | zero => exact opens_zero
    | succ m ih => exact step m _ (hs m) ih
  intro n fuel cs x hf hx
  obtain ⟨a, ha, hw⟩ := key n fuel cs x hf hx
  exact ⟨a, ⟨n, ha⟩, hw⟩

theorem agg_of_list {cs : Array Value} {l : List Value} (h : cs.toList = l) : cs = l.toArray := by
  rw [← h]
end
end Go.Proofs.Ytdpnebdepjdogaa.Open
