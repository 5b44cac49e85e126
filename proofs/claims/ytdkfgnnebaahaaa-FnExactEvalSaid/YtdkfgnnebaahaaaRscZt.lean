/- slices.Grow of nil, at whatever elements of one cell, by its contract. No conditions. -/
import Derived.Test.YtdkfgnnebaahaaaRscZr
import Derived.Shelf.Spec.SlicesGrow
namespace Go.Rsc
open Go.RowKit Go.Shelf Go.Proofs
set_option linter.unusedVariables false
set_option linter.unusedSimpArgs false

section
variable {P : Program} {ρ : Ren}
def growSig (e : TypeId) : Sig := { ps := [.ro .nl, .ro (.int .i64)], rs := [.v (.own e false)], orc := some .grow }
theorem grow_run {l n : PV} {os : List PV} (h : Orc.grow.run [l, n] = some os) : 0 ≤ n.toInt ∧ n.toInt ≤ 1073741824 ∧ os = [.list []] := by
  change (if (decide (0 ≤ n.toInt) && decide (n.toInt ≤ 1073741824)) = true then some [PV.list []] else none) = some os at h
  split at h
  · rename_i hc
    simp only [Bool.and_eq_true, decide_eq_true_eq] at hc
    exact ⟨hc.1, hc.2, by simpa using h.symm⟩
  · cases h
theorem grow_good (L : Lays8.n4 P ρ) {e : TypeId} (he : ρ.t 25 = e) {i : TypeInfo} {z : Value} (hi : P.info? e = some i) (hz : i.zero = some z) (hs : i.size = 1) (hzs : z.cells.size = 1) (hb : i.bytes ≤ 1024) (hel : (el P false e).sz = 1) {az os : List PV} (h : Orc.grow.run az = some os) : Ctr P (growSig e) (ρ.f 4) az os := by
  refine Ctr.same fun w F V X T cin hargs => ?_
  have hargs : az = [X 0, X 1] := hargs
  subst hargs
  subst he
  obtain ⟨hn0, hn1, rfl⟩ := grow_run h
  obtain ⟨cs0, hf0, hR0⟩ := cin.arg 0 (.ro .nl) (by simp [growSig, flatP])
  obtain ⟨cs1, hf1, hR1⟩ := cin.arg 1 (.ro (.int .i64)) (by simp [growSig, flatP])
  have hV0 : V 0 = .slice none 0 0 := by
    have hc : cs0 = [V 0] := hf0.single rfl
    subst hc
    generalize V 0 = v at hR0
    generalize X 0 = y at hR0
    cases hR0
    rfl
  obtain ⟨n, hV1, hX1⟩ := R.isInt hf1 hR1
  rw [hX1] at hn0 hn1
  have hn0 : 0 ≤ n := hn0
  have hn1 : n ≤ 1073741824 := hn1
  obtain ⟨m, rfl⟩ : ∃ m : Nat, n = m := ⟨n.toNat, by omega⟩
  have main : Calls P (ρ.f 4) #[.slice none 0 0, .int .i64 m] w fun ex w' => ∃ v U, ex = .returned v ∧ Ext w Set.none w' ∧ R P w' F (.own (ρ.t 25) false) [v] (.list []) U ∧ ∀ b, U b → w.heap.size ≤ b ∧ b < w'.heap.size := by
    by_cases h0 : m = 0
    · subst h0
      refine (Any8.slices_Grow_room L none 0 0 0 w (Nat.le_refl _) (by omega) (by omega) (by omega)).mono fun ex w' ⟨he, hw⟩ => ?_
      subst hw
      exact ⟨_, Set.none, he, Ext.refl _ _, .onil .., fun b hb => hb.elim⟩
    · have hbig : (0 + m) * i.bytes ≤ 140737488355328 := by
        have : m * i.bytes ≤ 1073741824 * 1024 := Nat.mul_le_mul (by omega) hb
        rw [Nat.zero_add]
        omega
      refine (Any8.slices_Grow_grow L i z hi hz (by omega) none 0 0 m [] w (Nat.le_refl _) (by omega) hbig (by omega) (by simp) (fun _ => rfl) (fun a ha => by cases ha)).mono fun ex w' ⟨he, hw⟩ => ?_
      subst hw
      have hge := grownCap_ge w (0 + m) 0 (ρ.t 25)
      have hcm := grownCap_le_maxLen w (0 + m) 0 (ρ.t 25) (by simp only [maxLen]; omega)
      refine ⟨_, fun b => b = w.heap.size, he, ⟨rfl, rfl, rfl, by simp, fun b hb _ => heap_alloc_old w.drew _ hb⟩, ?_, fun b hb => by subst hb; simp⟩
      refine .own (ρ.t 25) false w.heap.size 0 _ _ [] _ (fun _ => Set.none) (heap_alloc_new w.drew _) (Nat.zero_le _) hcm ?_ rfl (by rw [hel]; exact Nat.one_pos) rfl (fun _ _ h => h.elim) (fun _ _ h => h.elim) (fun _ _ _ h => h.elim) (fun j p hp => by simp at hp)
      simp only [Array.size_append, List.size_toArray, List.length_nil, size_zeroCells, hzs, hel]
      omega
  show Calls P (ρ.f 4) #[V 0, V 1] w _
  rw [hV0, hV1]
  refine main.mono fun ex w' ⟨v, U, he, hx, hR, hU⟩ => ?_
  subst he
  refine ⟨X, fun _ => Set.none, [v], [.list []], fun j => if j = 0 then U else Set.none, rfl, ?_, rfl⟩
  refine { lv := rfl, lp := rfl, res := fun j rm hj => ?_, arg := fun m pm hm => ?_, non := fun m hm b hb => hb, dU := fun j j' b hb hb' => ?_, dT := fun m m' b hb => hb.elim, dUT := fun j m b _ hb => hb.elim, nU := fun j b hb => ?_, nT := fun m b hb => hb.elim, ext := ⟨hx.os, hx.tape, hx.output, hx.size, fun b hb _ => hx.block b hb fun h => h⟩ }
  · match j with
    | 0 =>
      simp only [growSig, List.getElem?_cons_zero, Option.some.injEq] at hj
      subst hj
      exact ⟨[v], .inr ⟨rfl, rfl⟩, hR⟩
    | j + 1 => simp [growSig] at hj
  · simp only [growSig, flatP, List.mem_cons, Prod.mk.injEq, List.not_mem_nil, or_false] at hm
    rcases hm with ⟨rfl, rfl⟩ | ⟨rfl, rfl⟩ <;> trivial
  · split at hb
    · split at hb'
      · omega
      · exact hb'.elim
    · exact hb.elim
  · split at hb
    · exact ⟨.inr (hU b hb).1, (hU b hb).2⟩
    · exact hb.elim
end
end Go.Rsc
