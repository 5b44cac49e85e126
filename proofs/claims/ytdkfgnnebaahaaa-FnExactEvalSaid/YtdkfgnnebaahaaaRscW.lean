/- Arguments of calls, all of them. No conditions. -/
import Derived.Test.YtdkfgnnebaahaaaRscV
namespace Go.Rsc
open Go.RowKit
set_option linter.unusedVariables false
set_option linter.unusedSimpArgs false

section
variable {P : Program} {w w' : World} {F F' : Set} {Γ : Nat → D} {σ : Nat → PV} {val : Nat → Value} {loc : Nat → Nat} {S : Nat → Set} {C : Cx} {tmps : Array Value}
variable {d d' x y : SD} {cs c : List Value} {p q : PV} {T T' : Set}

theorem takeAs_ok {b : Nat} : ∀ (es : List ((Nat × PM) × Src)) {Γ : Nat → D} {σ : Nat → PV} {val : Nat → Value} {S : Nat → Set} {ms : List MS}, RelX C Γ σ val loc S F tmps w → takeAs Γ b es = some ms → (es.map (·.1.1)).Nodup →
    ∃ val' S', RelX C (ms.foldl apm Γ) (preRun ms σ) val' loc S' F tmps w ∧ (∀ k, (∀ e ∈ es, k ≠ vk (b + e.1.1)) → val' k = val k) ∧ (∀ m d x, ((m, .mv d), .op x) ∈ es → val' (vk (b + m)) = evalOp tmps x)
  | [], Γ, σ, val, S, ms, h, ht, _ => by
    simp only [takeAs, Option.some.injEq] at ht
    subst ht
    exact ⟨val, S, h, fun k _ => rfl, fun m d x hm => by cases hm⟩
  | ((m, pm), s) :: es, Γ, σ, val, S, ms, h, ht, hnd => by
    simp only [List.map_cons, List.nodup_cons] at hnd
    have skip : takeAs Γ b es = some ms → (∀ d x, (pm, s) ≠ (.mv d, .op x)) → ∃ val' S', RelX C (ms.foldl apm Γ) (preRun ms σ) val' loc S' F tmps w ∧ (∀ k, (∀ e ∈ ((m, pm), s) :: es, k ≠ vk (b + e.1.1)) → val' k = val k) ∧ (∀ m' d x, ((m', .mv d), .op x) ∈ ((m, pm), s) :: es → val' (vk (b + m')) = evalOp tmps x) := by
      intro ht hne
      obtain ⟨val', S', h1, h2, h3⟩ := takeAs_ok es h ht hnd.2
      refine ⟨val', S', h1, fun k hk => h2 k fun e he => hk e (by simp [he]), fun m' d x hm => ?_⟩
      rcases List.mem_cons.1 hm with e | hm
      · simp only [Prod.mk.injEq] at e
        exact absurd (by rw [← e.1.2, ← e.2]) (hne d x)
      · exact h3 m' d x hm
    cases pm with
    | mv d0 =>
      cases s with
      | op x =>
        simp only [takeAs] at ht
        split at ht
        · rename_i d1 m1 htk
          obtain ⟨ms', hms, rfl⟩ := Option.map_eq_some_iff.1 ht
          obtain ⟨S1, h1, hg⟩ := take_ok h (vk_mod (b + m)) htk
          obtain ⟨val', S', h2, h3, h4⟩ := takeAs_ok es h1 hms hnd.2
          refine ⟨val', S', h2, fun k hk => ?_, fun m' d x' hm => ?_⟩
          · rw [h3 k (fun e he => hk e (by simp [he])), updF_ne _ _ (hk ((m, .mv d0), .op x) (by simp))]
          · rcases List.mem_cons.1 hm with e | hm
            · simp only [Prod.mk.injEq, PM.mv.injEq, Src.op.injEq] at e
              obtain ⟨⟨rfl, _⟩, rfl⟩ := e
              rw [h3 _ (fun e he hv => hnd.1 (by have := vk_inj hv; have : m' = e.1.1 := by omega
                                                 rw [this]; exact List.mem_map.2 ⟨e, he, rfl⟩)), updF_same]
            · exact h4 m' d x' hm
        · cases ht
      | key k => simp [takeAs] at ht
    | ro d0 => exact skip (by simpa only [takeAs] using ht) (fun d x => by simp)
    | rp d0 => exact skip (by simpa only [takeAs] using ht) (fun d x => by simp)
    | ref t d0 d1 => exact skip (by simpa only [takeAs] using ht) (fun d x => by simp)
    | «mut» d0 => exact skip (by simpa only [takeAs] using ht) (fun d x => by simp)
    | clo f cs => exact skip (by simpa only [takeAs] using ht) (fun d x => by simp)

/-- Where the value with a number comes from. -/
def srcAt (Γ : Nat → D) (args : List Src) (m : Nat) : Option Src :=
  if m < 2000 then args[m]? else match (args[(m - 2000) / 16]?).bind (cloOf Γ) with
    | some (_, ks) => (ks[(m - 2000) % 16]?).map .key
    | none => none

theorem flatC_get : ∀ (cs : List CM) (n : Nat), (flatC cs n).length = cs.length ∧ ∀ j q, (flatC cs n)[j]? = some q → q.1 = n + j
  | [], n => ⟨rfl, fun j q h => by simp [flatC] at h⟩
  | c :: cs, n => by
    obtain ⟨h1, h2⟩ := flatC_get cs (n + 1)
    have key : ∀ pm : PM, ((n, pm) :: flatC cs (n + 1)).length = (c :: cs).length ∧ ∀ j q, ((n, pm) :: flatC cs (n + 1))[j]? = some q → q.1 = n + j := by
      intro pm
      refine ⟨by simp [h1], fun j q h => ?_⟩
      cases j with
      | zero => simp only [List.getElem?_cons_zero, Option.some.injEq] at h; subst h; rfl
      | succ j => have := h2 j q (by simpa using h); omega
    cases c with
    | rp d => exact key _
    | ref t d d' => exact key _

theorem flat_src {Γ : Nat → D} {all : List Src} : ∀ (ps : List PM) (args : List Src) (i : Nat) {ss : List Src}, flatS0 Γ ps args = some ss → (∀ j, args[j]? = all[i + j]?) → i + ps.length < 2000 →
    ss.length = (flatP ps i).length ∧ ps.length = args.length ∧ (∀ m pm s, ((m, pm), s) ∈ (flatP ps i).zip ss → srcAt Γ all m = some s ∧ (∀ k, s = .key k → m < 2000 ∨ k % 64 ≠ 63)) ∧
      (∀ (j : Nat) (f : FuncId) (cs : List CM), ps[j]? = some (PM.clo f cs) → ∃ s ks, args[j]? = some s ∧ cloOf Γ s = some (f % 4096, ks) ∧ ks.length = cs.length ∧ cs.length ≤ 16 ∧ ∀ k ∈ ks, k % 64 ≠ 63)
  | [], [], i, ss, h, _, _ => by
    simp only [flatS0, Option.some.injEq] at h
    subst h
    exact ⟨rfl, rfl, fun m pm s h => by simp [flatP] at h, fun j f cs h => by simp at h⟩
  | [], _ :: _, i, ss, h, _, _ => by simp [flatS0] at h
  | p :: ps, [], i, ss, h, _, _ => by cases p <;> simp [flatS0] at h
  | p :: ps, s :: args, i, ss, h, ha, hi => by
    have ha' : ∀ j, args[j]? = all[i + 1 + j]? := fun j => by
      have := ha (j + 1)
      rw [show i + (j + 1) = i + 1 + j by omega] at this
      simpa using this
    have h0 : all[i]? = some s := by have := ha 0; simpa using this.symm
    simp only [List.length_cons] at hi
    have plain : (∀ f cs, p ≠ .clo f cs) → ((flatS0 Γ ps args).map fun l => s :: l) = some ss → flatP (p :: ps) i = (i, p) :: flatP ps (i + 1) →
        ss.length = (flatP (p :: ps) i).length ∧ (p :: ps).length = (s :: args).length ∧ (∀ m pm s', ((m, pm), s') ∈ (flatP (p :: ps) i).zip ss → srcAt Γ all m = some s' ∧ (∀ k, s' = .key k → m < 2000 ∨ k % 64 ≠ 63)) ∧
          (∀ (j : Nat) (f : FuncId) (cs : List CM), (p :: ps)[j]? = some (PM.clo f cs) → ∃ s' ks, (s :: args)[j]? = some s' ∧ cloOf Γ s' = some (f % 4096, ks) ∧ ks.length = cs.length ∧ cs.length ≤ 16 ∧ ∀ k ∈ ks, k % 64 ≠ 63) := by
      intro hp hs hf
      obtain ⟨l, hl, rfl⟩ := Option.map_eq_some_iff.1 hs
      obtain ⟨h1, h2, h3, h4⟩ := flat_src ps args (i + 1) hl ha' (by omega)
      rw [hf]
      refine ⟨by simp [h1], by simp [h2], fun m pm s' hm => ?_, fun j f cs hj => ?_⟩
      · simp only [List.zip_cons_cons, List.mem_cons] at hm
        rcases hm with e | hm
        · simp only [Prod.mk.injEq] at e
          obtain ⟨⟨rfl, _⟩, rfl⟩ := e
          exact ⟨by unfold srcAt; rw [if_pos (by omega), h0], fun k _ => .inl (by omega)⟩
        · exact h3 m pm s' hm
      · cases j with
        | zero => simp only [List.getElem?_cons_zero, Option.some.injEq] at hj; exact absurd hj (hp f cs)
        | succ j => simpa using h4 j f cs (by simpa using hj)
    cases p with
    | clo f cs =>
      simp only [flatS0] at h
      split at h
      · rename_i g ks l hclo hl
        split at h
        · rename_i hcond
          simp only [Bool.and_eq_true, beq_iff] at hcond
          obtain ⟨⟨⟨hfg, hlen⟩, hks⟩, h16⟩ := hcond
          have h16 := Nat.le_of_ble_eq_true h16
          have hks' : ∀ k ∈ ks, k % 64 ≠ 63 := fun k hk => by
            have := List.all_eq_true.1 hks k hk
            simp only [Bool.not_eq_true'] at this
            exact beq_false.1 this
          simp only [Option.some.injEq] at h
          subst h
          obtain ⟨h1, h2, h3, h4⟩ := flat_src ps args (i + 1) hl ha' (by omega)
          obtain ⟨c1, c2⟩ := flatC_get cs (capN i)
          refine ⟨by simp [flatP, h1, c1, hlen], by simp [h2], fun m pm s' hm => ?_, fun j f' cs' hj => ?_⟩
          · simp only [flatP] at hm
            rw [List.zip_append (by simp [c1, hlen])] at hm
            rcases List.mem_append.1 hm with hm | hm
            · obtain ⟨j, hj⟩ := List.getElem?_of_mem hm
              rw [List.getElem?_zip_eq_some] at hj
              obtain ⟨e1, e2⟩ := hj
              have e3 := c2 j _ e1
              simp only at e3
              rw [List.getElem?_map] at e2
              obtain ⟨k, ek, rfl⟩ := Option.map_eq_some_iff.1 e2
              have hjlt : j < cs.length := by rw [← c1]; exact (List.getElem?_eq_some_iff.1 e1).1
              refine ⟨?_, fun k' e => .inr ?_⟩
              · unfold srcAt
                have a1 : ¬ m < 2000 := by rw [e3]; unfold capN; omega
                have a2 : (m - 2000) / 16 = i := by rw [e3]; unfold capN; omega
                have a3 : (m - 2000) % 16 = j := by rw [e3]; unfold capN; omega
                rw [if_neg a1, a2, a3, h0]
                simp only [Option.bind_some, hclo, ek, Option.map_some]
              · simp only [Src.key.injEq] at e
                subst e
                exact hks' _ (List.mem_of_getElem? ek)
            · exact h3 m pm s' hm
          · cases j with
            | zero =>
              simp only [List.getElem?_cons_zero, Option.some.injEq, PM.clo.injEq] at hj
              obtain ⟨rfl, rfl⟩ := hj
              exact ⟨s, ks, rfl, by rw [hclo, hfg], hlen, h16, hks'⟩
            | succ j => simpa using h4 j f' cs' (by simpa using hj)
        · cases h
      · cases h
    | ro d => exact plain (fun f cs e => by cases e) (by simpa only [flatS0] using h) rfl
    | rp d => exact plain (fun f cs e => by cases e) (by simpa only [flatS0] using h) rfl
    | mv d => exact plain (fun f cs e => by cases e) (by simpa only [flatS0] using h) rfl
    | ref t d d' => exact plain (fun f cs e => by cases e) (by simpa only [flatS0] using h) rfl
    | «mut» d => exact plain (fun f cs e => by cases e) (by simpa only [flatS0] using h) rfl

theorem cArgs_get {b : Nat} : ∀ (es : List ((Nat × PM) × Src)) {as : List AR}, cArgs P Γ b es = some as → as.length = es.length ∧ ∀ (k : Nat) m pm s, es[k]? = some ((m, pm), s) → ∃ a, as[k]? = some a ∧ cArg P Γ b m pm s = some a
  | [], as, h => by
    simp only [cArgs, Option.some.injEq] at h
    subst h
    exact ⟨rfl, fun k m pm s h => by simp at h⟩
  | ((m0, p0), s0) :: es, as, h => by
    simp only [cArgs] at h
    split at h
    · rename_i a r h1 h2
      simp only [Option.some.injEq] at h
      subst h
      obtain ⟨g1, g2⟩ := cArgs_get es h2
      refine ⟨by simp [g1], fun k m pm s hk => ?_⟩
      cases k with
      | zero =>
        simp only [List.getElem?_cons_zero, Option.some.injEq, Prod.mk.injEq] at hk
        obtain ⟨⟨rfl, rfl⟩, rfl⟩ := hk
        exact ⟨a, rfl, h1⟩
      | succ k => simpa using g2 k m pm s (by simpa using hk)
    · cases h
end
end Go.Rsc
