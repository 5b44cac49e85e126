/- How a function is entered, and how its results are taken. No conditions. -/
import Derived.Test.YtdkfgnnebaahaaaRscZj
namespace Go.Rsc
open Go.RowKit
set_option linter.unusedVariables false
set_option linter.unusedSimpArgs false

/-- What is known at the entry: each thing comes of a parameter. -/
inductive EntP (G : GL) (n : Nat) (fl : List (Nat × PM)) (all : List PM) : Nat → D → Prop
  | ro (m : Nat) (d : SD) : (m, PM.ro d) ∈ fl → m < n → EntP G n fl all (tk m) (.v d)
  | mv (m : Nat) (d : SD) : (m, PM.mv d) ∈ fl → m < n → EntP G n fl all (tk m) (.v d)
  | rp (m : Nat) (d : SD) (k : Nat) : (m, PM.rp d) ∈ fl → (m < n ∧ k = tk m) ∨ (2000 ≤ m ∧ k = hk m) → EntP G n fl all k (.rp d)
  | box (m : Nat) (t : TypeId) (d d' : SD) : (m, PM.ref t d d') ∈ fl → EntP G n fl all (pk m) (.box t d)
  | bp (m : Nat) (t : TypeId) (d d' : SD) (k : Nat) : (m, PM.ref t d d') ∈ fl → (m < n ∧ k = tk m) ∨ k = hk m → EntP G n fl all k (.bp (pk m))
  | mt (m : Nat) (d : SD) : (m, PM.mut d) ∈ fl → EntP G n fl all (pk m) (.v d)
  | view (m : Nat) (d : SD) : (m, PM.mut d) ∈ fl → m < n → (pk m, D.v d) ∈ G → EntP G n fl all (tk m) (.view (pk m) ⟨[], none⟩)
  | clo (i : Nat) (f : FuncId) (cs : List CM) : all[i]? = some (.clo f cs) → i < n → EntP G n fl all (tk i) (.clo (f % 4096) ((List.range cs.length).map fun j => hk (capN i + j)))

theorem entryCaps_mem {G : GL} {n : Nat} {fl : List (Nat × PM)} {all : List PM} : ∀ (cs : List CM) (m : Nat), 2000 ≤ m → (∀ q ∈ flatC cs m, q ∈ fl) → ∀ k x, (k, x) ∈ entryCaps cs m → EntP G n fl all k x
  | [], m, _, _, k, x, h => by simp [entryCaps] at h
  | .rp d :: cs, m, hm, hfl, k, x, h => by
    simp only [entryCaps, List.mem_cons, Prod.mk.injEq] at h
    rcases h with ⟨rfl, rfl⟩ | h
    · exact .rp m d _ (hfl _ (by simp [flatC])) (.inr ⟨hm, rfl⟩)
    · exact entryCaps_mem cs (m + 1) (by omega) (fun q hq => hfl q (by simp [flatC, hq])) k x h
  | .ref t d d' :: cs, m, hm, hfl, k, x, h => by
    simp only [entryCaps, List.mem_cons, Prod.mk.injEq] at h
    rcases h with ⟨rfl, rfl⟩ | ⟨rfl, rfl⟩ | h
    · exact .box m t d d' (hfl _ (by simp [flatC]))
    · exact .bp m t d d' _ (hfl _ (by simp [flatC])) (.inr rfl)
    · exact entryCaps_mem cs (m + 1) (by omega) (fun q hq => hfl q (by simp [flatC, hq])) k x h
theorem entry_mem {G : GL} {n : Nat} {fl : List (Nat × PM)} {all : List PM} : ∀ (ps : List PM) (i : Nat), (∀ j, ps[j]? = all[i + j]?) → i + ps.length ≤ n → (∀ x ∈ entry ps i, x ∈ G) → (∀ q ∈ flatP ps i, q ∈ fl) →
    ∀ k x, (k, x) ∈ entry ps i → EntP G n fl all k x
  | [], i, _, _, _, _, k, x, h => by simp [entry] at h
  | p :: ps, i, hall, hn, hG, hfl, k, x, h => by
    have hall' : ∀ j, ps[j]? = all[i + 1 + j]? := fun j => by
      have := hall (j + 1)
      rw [List.getElem?_cons_succ] at this
      rw [this]; congr 1; omega
    have hn' : i + 1 + ps.length ≤ n := by simp only [List.length_cons] at hn; omega
    have hi : i < n := by simp only [List.length_cons] at hn; omega
    have h0 : all[i]? = some p := by have := hall 0; simpa using this.symm
    cases p with
    | ro d =>
      simp only [entry, List.mem_cons, Prod.mk.injEq] at h
      rcases h with ⟨rfl, rfl⟩ | h
      · exact .ro i d (hfl _ (by simp [flatP])) hi
      · exact entry_mem ps (i + 1) hall' hn' (fun x hx => hG x (by simp [entry, hx])) (fun q hq => hfl q (by simp [flatP, hq])) k x h
    | mv d =>
      simp only [entry, List.mem_cons, Prod.mk.injEq] at h
      rcases h with ⟨rfl, rfl⟩ | h
      · exact .mv i d (hfl _ (by simp [flatP])) hi
      · exact entry_mem ps (i + 1) hall' hn' (fun x hx => hG x (by simp [entry, hx])) (fun q hq => hfl q (by simp [flatP, hq])) k x h
    | rp d =>
      simp only [entry, List.mem_cons, Prod.mk.injEq] at h
      rcases h with ⟨rfl, rfl⟩ | h
      · exact .rp i d _ (hfl _ (by simp [flatP])) (.inl ⟨hi, rfl⟩)
      · exact entry_mem ps (i + 1) hall' hn' (fun x hx => hG x (by simp [entry, hx])) (fun q hq => hfl q (by simp [flatP, hq])) k x h
    | ref t d d' =>
      simp only [entry, List.mem_cons, Prod.mk.injEq] at h
      rcases h with ⟨rfl, rfl⟩ | ⟨rfl, rfl⟩ | h
      · exact .box i t d d' (hfl _ (by simp [flatP]))
      · exact .bp i t d d' _ (hfl _ (by simp [flatP])) (.inl ⟨hi, rfl⟩)
      · exact entry_mem ps (i + 1) hall' hn' (fun x hx => hG x (by simp [entry, hx])) (fun q hq => hfl q (by simp [flatP, hq])) k x h
    | «mut» d =>
      simp only [entry, List.mem_cons, Prod.mk.injEq] at h
      rcases h with ⟨rfl, rfl⟩ | ⟨rfl, rfl⟩ | h
      · exact .mt i d (hfl _ (by simp [flatP]))
      · exact .view i d (hfl _ (by simp [flatP])) hi (hG _ (by simp [entry]))
      · exact entry_mem ps (i + 1) hall' hn' (fun x hx => hG x (by simp [entry, hx])) (fun q hq => hfl q (by simp [flatP, hq])) k x h
    | clo f cs =>
      simp only [entry, List.mem_cons, Prod.mk.injEq, List.mem_append] at h
      rcases h with (⟨rfl, rfl⟩ | h) | h
      · exact .clo i f cs h0 hi
      · exact entryCaps_mem cs (capN i) (by unfold capN; omega) (fun q hq => hfl q (by simp [flatP, hq])) k x h
      · exact entry_mem ps (i + 1) hall' hn' (fun x hx => hG x (by simp [entry, hx])) (fun q hq => hfl q (by simp [flatP, hq])) k x h

theorem fillAt_out (ps : List PV) (k : Nat) : ∀ (ks : List Nat) (i : Nat), k ∉ ks → fillAt ks i ps k = .unit
  | [], i, _ => rfl
  | j :: ks, i, h => by
    simp only [List.mem_cons, not_or] at h
    simp only [fillAt, beq_false.2 h.1, Bool.false_eq_true, if_false]
    exact fillAt_out ps k ks (i + 1) h.2
theorem fill_out (ks : List Nat) (ps : List PV) (k : Nat) (h : k ∉ ks) : fill ks ps k = .unit := fillAt_out ps k ks 0 h
theorem fillAt_at {α : Type} {f : α → Nat} {g : α → PV} : ∀ (l l0 : List α), (l.map f).Nodup → ∀ q ∈ l, fillAt (l.map f) l0.length ((l0 ++ l).map g) (f q) = g q
  | [], l0, _, q, h => by cases h
  | x :: l, l0, hn, q, h => by
    simp only [List.map_cons, List.nodup_cons] at hn
    simp only [List.map_cons, fillAt]
    rcases List.mem_cons.1 h with rfl | h
    · simp [List.getD_eq_getElem?_getD]
    · have : f q ≠ f x := fun e => hn.1 (List.mem_map.2 ⟨q, h, e⟩)
      rw [beq_false.2 this]
      simp only [Bool.false_eq_true, if_false]
      have ih := fillAt_at (g := g) l (l0 ++ [x]) hn.2 q h
      simp only [List.append_assoc, List.singleton_append, List.length_append, List.length_singleton] at ih
      exact ih
theorem fill_at {α : Type} {f : α → Nat} {g : α → PV} (l : List α) (hn : (l.map f).Nodup) : ∀ q ∈ l, fill (l.map f) (l.map g) (f q) = g q := fillAt_at l [] hn

def locOf (v : Value) : Nat := match v with
  | .pointer (some a) => a.block
  | _ => 0
/-- The frame of a function that was called. -/
def cxOf {P : Program} {w : World} {F : Set} {T : Nat → Set} {V : Nat → Value} {ps : List PM} {X : Nat → PV} (cin : CIn P w F ps V X T) (nt : Nat) : Cx :=
  { P := P, w0 := w, S0 := handed T, F0 := F, nt := nt, pv := fun k => V (k / 64), pl := fun k => locOf (V (k / 64)), kp := cin.kp, dis := fun b hb hm => cin.sF _ b hm.choose_spec hb, lt := cin.fz }

theorem fst_inj {l : List (Nat × PM)} (hn : (l.map (·.1)).Nodup) {q q' : Nat × PM} (h : q ∈ l) (h' : q' ∈ l) (e : q.1 = q'.1) : q = q' := by
  obtain ⟨k, hk⟩ := List.getElem?_of_mem h
  obtain ⟨k', hk'⟩ := List.getElem?_of_mem h'
  have h1 := idx_at hn hk
  have h2 := idx_at hn hk'
  rw [e, h2] at h1
  simp only [Option.some.injEq] at h1
  subst h1
  rw [hk] at hk'
  simpa using hk'

section
variable {P : Program} {w : World} {F : Set} {V : Nat → Value} {X : Nat → PV} {T : Nat → Set} {s : Sig} {nt : Nat}

theorem entry_ok (cin : CIn P w F s.ps V X T) (hE : entryOk s = true) (hl : s.ps.length ≤ nt) :
    Rel (cxOf cin nt) (gf (entryOf s)) (fill (argKeys s.ps 0) ((flatP s.ps 0).map fun q => X q.1)) (((List.range s.ps.length).map V).toArray ++ Array.replicate (nt - s.ps.length) undef) w := by
  unfold entryOk at hE
  simp only [Bool.and_eq_true, List.all_eq_true, beq_iff_eq] at hE
  obtain ⟨⟨⟨⟨⟨h1, h2⟩, h3⟩, h4⟩, h5⟩, h6⟩ := hE
  have h2 := distinct_iff _ h2
  have h4 := distinct_iff _ h4
  have h5 : s.ps.length < 63 := Nat.le_of_ble_eq_true h5
  rw [h3] at h1 h2 ⊢
  generalize htm : ((List.range s.ps.length).map V).toArray ++ Array.replicate (nt - s.ps.length) undef = tmps
  have hget : ∀ i, i < s.ps.length → tmps.getD i undef = V i := by
    intro i hi
    rw [← htm]
    simp [Array.getD_eq_getD_getElem?, Array.getElem?_append, hi]
  have hfill : ∀ q ∈ flatP s.ps 0, fill ((flatP s.ps 0).map keyOf) ((flatP s.ps 0).map fun q => X q.1) (keyOf q) = X q.1 := fill_at _ h2
  have d64 : ∀ i j, j < 64 → (64 * i + j) / 64 = i := fun i j hj => by omega
  refine ⟨fun k => if k % 64 = 0 then tmps.getD (k / 64) undef else V (k / 64), fun k => locOf (V (k / 64)), fun k b => ∃ q ∈ flatP s.ps 0, keyOf q = k ∧ T q.1 b, F, ?_⟩
  have vt : ∀ m, m < s.ps.length → (fun k => if k % 64 = 0 then tmps.getD (k / 64) undef else V (k / 64)) (tk m) = V m := by
    intro m hm
    have e1 : tk m % 64 = 0 := by unfold tk; omega
    have e2 : tk m / 64 = m := by unfold tk; omega
    simp only [e1, e2, if_true, hget m hm]
  have vp : ∀ m, (fun k => if k % 64 = 0 then tmps.getD (k / 64) undef else V (k / 64)) (pk m) = V m := by
    intro m
    have e1 : pk m % 64 ≠ 0 := by unfold pk; omega
    have e2 : pk m / 64 = m := by unfold pk; omega
    simp only [e1, e2, if_false]
  have vh : ∀ m, (fun k => if k % 64 = 0 then tmps.getD (k / 64) undef else V (k / 64)) (hk m) = V m := by
    intro m
    have e1 : hk m % 64 ≠ 0 := by unfold hk; omega
    have e2 : hk m / 64 = m := by unfold hk; omega
    simp only [e1, e2, if_false]
  have lp : ∀ m, pk m / 64 = m := fun m => by unfold pk; omega
  refine
    { n := ?_, ok := fun k => ?_, tm := fun i => ?_, dj := fun k k' b hb hb' => ?_, sF := fun k b hb hf => ?_, sz := fun k b hb => ?_, fz := cin.fz, nw := fun k b hb => ?_, f0 := fun b hb => hb, fn := fun b hb => .inl hb,
      pin := fun k hk => ⟨?_, rfl⟩, ext := Ext.refl w _ }
  · rw [← htm]
    simp [cxOf]; omega
  · by_cases hn : gf (entryOf s) k = .none
    · rw [hn]; trivial
    · have hm := gf_mem hn
      have hent := entry_mem (G := entryOf s) (n := s.ps.length) (fl := flatP s.ps 0) (all := s.ps) s.ps 0 (fun j => by rw [Nat.zero_add]) (by omega) (fun x hx => hx) (fun q hq => hq) k _ hm
      have hun : carr (gf (entryOf s) k) = false → fill ((flatP s.ps 0).map keyOf) ((flatP s.ps 0).map fun q => X q.1) k = .unit := by
        intro hc
        have := (h1 _ hm).2
        simp only [hc, Bool.false_or, Bool.not_eq_true'] at this
        refine fill_out _ _ _ fun hmem => ?_
        rw [mem_iff.2 hmem] at this; cases this
      revert hun
      generalize gf (entryOf s) k = x at hent
      intro hun
      cases hent with
      | ro m d hfl hlt =>
        obtain ⟨cs, g1, g2⟩ := cin.arg m _ hfl
        refine ⟨cs, by rw [vt m hlt]; exact g1, ?_⟩
        rw [show tk m = keyOf (m, PM.ro d) from rfl, hfill _ hfl]
        exact g2.wide fun b hb => hb.elim
      | mv m d hfl hlt =>
        obtain ⟨cs, g1, g2⟩ := cin.arg m _ hfl
        refine ⟨cs, by rw [vt m hlt]; exact g1, ?_⟩
        rw [show tk m = keyOf (m, PM.mv d) from rfl, hfill _ hfl]
        exact g2.wide fun b hb => ⟨_, hfl, rfl, hb⟩
      | rp m d k hfl hk =>
        obtain ⟨ad, cs, g1, g2, g3, g4⟩ := cin.arg m _ hfl
        have hkey : keyOf (m, PM.rp d) = k := by
          rcases hk with ⟨e1, e2⟩ | ⟨e1, e2⟩
          · have : Nat.blt m 2000 = true := Nat.ble_eq_true_of_le (by omega)
            simp only [keyOf, this, if_true, e2]
          · have : Nat.blt m 2000 = false := by
              cases hb : Nat.blt m 2000 with
              | false => rfl
              | true => have := Nat.le_of_ble_eq_true hb; omega
            simp only [keyOf, this, e2, Bool.false_eq_true, if_false]
        refine ⟨ad, cs, ?_, g2, g3, ?_⟩
        · rw [← g1]
          rcases hk with ⟨e1, e2⟩ | ⟨e1, e2⟩
          · rw [e2]; exact vt m e1
          · rw [e2]; exact vh m
        · rw [← hkey, hfill _ hfl]; exact g4
      | box m t d d' hfl =>
        obtain ⟨b, arr, T0, g1, g2, g3, g4, g5⟩ := cin.arg m _ hfl
        have hloc : locOf (V (pk m / 64)) = b := by rw [lp, g1]; rfl
        refine ⟨arr, T0, ?_, ?_, fun b' hb' => ⟨⟨_, hfl, rfl, (g4 b' hb').1⟩, ?_⟩, ?_⟩
        · simp only [hloc]; exact g2
        · simp only [hloc]; exact ⟨_, hfl, rfl, g3⟩
        · simp only [hloc]; exact (g4 b' hb').2
        · rw [show pk m = keyOf (m, PM.ref t d d') from rfl, hfill _ hfl]; exact g5
      | bp m t d d' k hfl hk =>
        obtain ⟨b, arr, T0, g1, g2, g3, g4, g5⟩ := cin.arg m _ hfl
        refine ⟨?_, hun rfl⟩
        have hloc : locOf (V (pk m / 64)) = b := by rw [lp, g1]; rfl
        simp only [hloc]
        rw [← g1]
        rcases hk with ⟨e1, e2⟩ | e2
        · rw [e2]; exact vt m e1
        · rw [e2]; exact vh m
      | mt m d hfl =>
        obtain ⟨cs, g1, g2⟩ := cin.arg m _ hfl
        refine ⟨cs, by rw [vp m]; exact g1, ?_⟩
        rw [show pk m = keyOf (m, PM.mut d) from rfl, hfill _ hfl]
        exact g2.wide fun b hb => ⟨_, hfl, rfl, hb⟩
      | view m d hfl hlt hG =>
        obtain ⟨cs, g1, g2⟩ := cin.arg m _ hfl
        have hΓ : gf (entryOf s) (pk m) = .v d := (h1 _ hG).1
        refine ⟨⟨d, cs, none, d, cs, none, .inl ⟨hΓ, by rw [vp m]; exact g1, rfl⟩, ⟨rfl, ?_, rfl⟩, by rw [vt m hlt]; exact g1⟩, fun _ => hun rfl⟩
        simp only [SD.off, List.drop_zero]
        rw [← g2.len, List.take_length]
      | clo i f cs hall hlt =>
        refine ⟨?_, hun rfl⟩
        rw [vt i hlt, cin.clo i f cs hall, List.map_map]
        congr 2
        refine List.map_congr_left fun j _ => ?_
        exact (vh (capN i + j)).symm
  · have e1 : tk i % 64 = 0 := by unfold tk; omega
    have e2 : tk i / 64 = i := by unfold tk; omega
    simp only [e1, e2, if_true]
  · obtain ⟨q, hq, e, hT⟩ := hb
    obtain ⟨q', hq', e', hT'⟩ := hb'
    have := fst_inj h4 hq hq' (cin.dj _ _ b hT hT')
    rw [← e, ← e', this]
  · obtain ⟨q, hq, e, hT⟩ := hb
    exact cin.sF _ b hT hf
  · obtain ⟨q, hq, e, hT⟩ := hb
    exact cin.sz _ b hT
  · obtain ⟨q, hq, e, hT⟩ := hb
    exact .inl ⟨_, hT⟩
  · have : k % 64 ≠ 0 := by omega
    simp only [this, if_false]; rfl
end

/-! ### Results -/
def resV (r : ResultVar) (tmps : Array Value) : Sem Value := match r with
  | .tmp t => pure (tmps.getD t undef)
  | .cell a t => do loadVar t (← asAddr (tmps.getD a undef))
theorem results_run {P : Program} {w : World} {fn : Func} {tmps : Array Value} {vs : List Value} (hl : vs.length = fn.results.size) (h : ∀ (j : Nat) (r : ResultVar), fn.results.toList[j]? = some r → (resV r tmps).run P w = .ok (vs.getD j undef) w) :
    (results fn tmps).run P w = .ok (retV vs) w := by
  have key : ∀ (l : List ResultVar) (vs : List Value), vs.length = l.length → (∀ (j : Nat) (r : ResultVar), l[j]? = some r → (resV r tmps).run P w = .ok (vs.getD j undef) w) → (l.mapM fun r => resV r tmps).run P w = .ok vs w := by
    intro l
    induction l with
    | nil => intro vs hl _; simp at hl; subst hl; simp
    | cons r l ih =>
      intro vs hl h
      cases vs with
      | nil => simp at hl
      | cons v vs =>
        have h0 := h 0 r rfl
        simp only [List.getD_cons_zero] at h0
        have h1 := ih vs (by simpa using hl) fun j r' hj => by
          have := h (j + 1) r' (by simpa using hj)
          simpa using this
        simp [List.mapM_cons, h0, h1]
  have h1 := key fn.results.toList vs (by simpa using hl) h
  show Sem.run P (do let vs ← fn.results.mapM (fun r => resV r tmps); pure (if h : vs.size = 1 then vs[0] else .tuple vs)) w = _
  rw [Array.mapM_eq_mapM_toList]
  simp only [Sem.run_bind, map_eq_pure_bind, h1, Result.andThen_ok, Sem.run_pure]
  unfold retV
  cases vs with
  | nil => rfl
  | cons v vs => cases vs with
    | nil => rfl
    | cons v' vs =>
      have : ¬ (v :: v' :: vs).toArray.size = 1 := by simp
      simp [this]

section
variable {C : Cx} {w : World} {F : Set} {Γ : Nat → D} {σ : Nat → PV} {val : Nat → Value} {loc : Nat → Nat} {S : Nat → Set} {tmps : Array Value}

/-- A box goes under another key. -/
theorem RelX.moveBox (h : RelX C Γ σ val loc S F tmps w) {o kv : Nat} (hkv : kv % 64 = 63) (ho : o ≠ kv) {x : D} {v : Value} {l : Nat}
    (hok : Ok C.P w F (ap Γ [(kv, x), (o, .none)] [kv, o] []) (updF σ kv (σ o)) (updF val kv v) (updF loc kv l) (fun k => if k = kv then S o else if k = o then Set.none else S k) kv x) :
    RelX C (ap Γ [(kv, x), (o, .none)] [kv, o] []) (updF σ kv (σ o)) (updF val kv v) (updF loc kv l) (fun k => if k = kv then S o else if k = o then Set.none else S k) F tmps w := by
  have lk : ∀ {k : Nat} {z : D}, look [(kv, x), (o, D.none)] k = some z → (k = kv ∧ z = x) ∨ (k ≠ kv ∧ k = o ∧ z = .none) := by
    intro k z hz
    rw [look_pair] at hz
    split at hz
    · rename_i e; exact .inl ⟨e, by simpa using hz.symm⟩
    · rename_i e
      split at hz
      · rename_i e2; exact .inr ⟨e, e2, by simpa using hz.symm⟩
      · cases hz
  have ne : ∀ {k : Nat}, look [(kv, x), (o, D.none)] k = none → k ≠ kv ∧ k ≠ o := by
    intro k hz
    rw [look_pair] at hz
    refine ⟨fun e => by simp [e] at hz, fun e => ?_⟩
    split at hz
    · cases hz
    · simp [e] at hz
  have lkv : look [(kv, x), (o, D.none)] kv = some x := by rw [look_pair]; simp
  have lo : look [(kv, x), (o, D.none)] o = some .none := by rw [look_pair]; simp [ho]
  refine h.app _ _ _ (fun k hk => ?_) (fun k z hz hm => ?_) (fun k z hz hm => by simp [mem_nil] at hm) (fun k hk => ?_) h.n (fun i => ?_) (fun b hb => hb) (fun b hb => hb) h.fz (fun b _ _ => rfl) rfl rfl rfl (Nat.le_refl _)
    (fun k z b hz hs => ?_) (fun k z b hz hs => ?_) (fun k z k' z' b hz hz' hs hs' => ?_) (fun k z b hz hs hf => ?_) (fun k z hz => ?_)
  · obtain ⟨e1, e2⟩ := ne hk
    exact ⟨updF_ne _ _ e1, updF_ne _ _ e1, updF_ne _ _ e1, by simp [e1, e2]⟩
  · rcases lk hz with ⟨e, _⟩ | ⟨_, e, _⟩ <;> simp [mem_cons, mem_nil, e] at hm
  · have e1 : k ≠ kv := fun e => by omega
    exact ⟨updF_ne _ _ e1, updF_ne _ _ e1⟩
  · rw [updF_ne _ _ (fun e => by unfold tk at e; omega)]; exact h.tm i
  · rcases lk hz with ⟨e, _⟩ | ⟨e1, e2, _⟩
    · simp only [e, if_true] at hs; exact .inl ⟨o, _, lo, hs⟩
    · simp only [e2, ho, if_false, if_true] at hs; exact hs.elim
  · rcases lk hz with ⟨e, _⟩ | ⟨e1, e2, _⟩
    · simp only [e, if_true] at hs; exact h.sz o b hs
    · simp only [e2, ho, if_false, if_true] at hs; exact hs.elim
  · rcases lk hz with ⟨e, _⟩ | ⟨e1, e2, _⟩
    · rcases lk hz' with ⟨e', _⟩ | ⟨e1', e2', _⟩
      · rw [e, e']
      · simp only [e2', ho, if_false, if_true] at hs'; exact hs'.elim
    · simp only [e2, ho, if_false, if_true] at hs; exact hs.elim
  · rcases lk hz with ⟨e, _⟩ | ⟨e1, e2, _⟩
    · simp only [e, if_true] at hs; exact h.sF o b hs hf
    · simp only [e2, ho, if_false, if_true] at hs; exact hs.elim
  · rcases lk hz with ⟨e, e'⟩ | ⟨e1, e2, e'⟩
    · rw [e, e']; exact hok
    · rw [e']; trivial

theorem run_loadVar {P : Program} {t : TypeId} {ad : Addr} {d : SD} {cs : List Value} {v : Value} (ht : tyOk P t d = true) (hl : cs.length = d.sz) (hc : ∀ i u, cs[i]? = some u → w.cell? (ad.add i) = some u) (hf : Fits d v cs) :
    (loadVar t ad).run P w = .ok v w := by
  have := run_loadAt ht hl hc hf
  simpa [Instr.loadAt, Instr.sureAddr] using this

theorem takeOne_ok (h : RelX C Γ σ val loc S F tmps w) {r : ResultVar} {i : Nat} {rm : RM} {m : MS} (ht : takeOne C.P Γ r i = some (rm, m)) :
    ∃ val' loc' S' v, RelX C (apm Γ m) (setAll σ [] m.sets) val' loc' S' F tmps w ∧ (∀ k, k ≠ vk i → val' k = val k ∧ loc' k = loc k) ∧ (resV r tmps).run C.P w = .ok v w ∧
      ∀ d, (rm = .v d → val' (vk i) = v) ∧ ∀ t, rm = .bx t d → v = .pointer (some ⟨loc' (vk i), 0, none⟩) := by
  have plain : ∀ {t : Nat}, (take Γ (.tmp t) (vk i)).map (fun (x : SD × MS) => (RM.v x.1, x.2)) = some (rm, m) → ∃ val' loc' S' v, RelX C (apm Γ m) (setAll σ [] m.sets) val' loc' S' F tmps w ∧ (∀ k, k ≠ vk i → val' k = val k ∧ loc' k = loc k) ∧ (resV (.tmp t) tmps).run C.P w = .ok v w ∧
      ∀ d, (rm = .v d → val' (vk i) = v) ∧ ∀ t, rm = .bx t d → v = .pointer (some ⟨loc' (vk i), 0, none⟩) := by
    intro t ht
    obtain ⟨⟨d, m'⟩, h1, h2⟩ := Option.map_eq_some_iff.1 ht
    simp only [Prod.mk.injEq] at h2
    obtain ⟨rfl, rfl⟩ := h2
    obtain ⟨S', h3, h4⟩ := take_ok h (vk_mod i) h1
    exact ⟨_, _, S', _, h3, fun k hk => ⟨updF_ne _ _ hk, rfl⟩, rfl, fun d' => ⟨fun _ => updF_same _ _ _, fun t e => by cases e⟩⟩
  have kvt : ∀ t, vk i ≠ tk t := fun t => vk_ne_tk i t
  unfold takeOne at ht
  cases r with
  | tmp t =>
    simp only at ht
    split at ht
    · rename_i o hΓ
      split at ht
      · rename_i ty d hΓo
        split at ht
        · cases ht
        · rename_i hne
          simp only [Option.some.injEq, Prod.mk.injEq] at ht
          obtain ⟨rfl, rfl⟩ := ht
          have hne : o ≠ vk i := fun e => hne (beq_iff.2 e)
          have hok := h.ok (tk t)
          rw [hΓ] at hok
          have hoo := h.ok o
          rw [hΓo] at hoo
          obtain ⟨arr, T, g1, g2, g3, g4⟩ := hoo
          refine ⟨val, updF loc (vk i) (loc o), fun k => if k = vk i then S o else if k = o then Set.none else S k, val (tk t), ?_, fun k hk => ⟨rfl, updF_ne _ _ hk⟩, ?_, fun d' => ⟨fun e => by (cases e), fun ty' e => ?_⟩⟩
          · have := h.moveBox (o := o) (x := .box ty d) (v := val (vk i)) (l := loc o) (vk_mod i) hne ?_
            · have e1 : updF val (vk i) (val (vk i)) = val := by funext k; unfold updF; split <;> simp_all
              rw [e1] at this
              have e2 : setAll σ [] [(vk i, PX.k o)] = updF σ (vk i) (σ o) := setAll_one ..
              show RelX C (ap Γ _ _ _) (setAll σ [] [(vk i, PX.k o)]) _ _ _ _ _ _
              rw [e2]
              exact this
            · refine ⟨arr, T, ?_, ?_, fun b hb => ?_, ?_⟩
              · rw [updF_same]; exact g1
              · rw [updF_same]; simp only [if_true]; exact g2
              · rw [updF_same]; simp only [if_true]; exact g3 b hb
              · rw [updF_same]; exact g4
          · simp only [resV, Sem.run_pure]
            rw [← h.tm t]
          · rw [updF_same]; exact hok.1
      · cases ht
    · exact plain ht
  | cell a ty =>
    simp only at ht
    split at ht
    · rename_i o hΓ
      split at ht
      · rename_i ty' d hΓo
        split at ht
        · cases ht
        · rename_i hne
          simp only [Option.some.injEq, Prod.mk.injEq] at ht
          obtain ⟨rfl, rfl⟩ := ht
          simp only [Bool.or_eq_true, not_or, Bool.not_eq_true', Bool.not_eq_false, Bool.not_eq_true] at hne
          obtain ⟨⟨n1, n2⟩, n3⟩ := hne
          have hne : o ≠ vk i := fun e => by simp [e] at n1
          have hok := h.ok (tk a)
          rw [hΓ] at hok
          have hoo := h.ok o
          rw [hΓo] at hoo
          obtain ⟨arr, T, g1, g2, g3, g4⟩ := hoo
          have hfit := mkV_fits g4 n3
          refine ⟨updF val (vk i) (mkV d arr.toList), loc, fun k => if k = vk i then S o else if k = o then Set.none else S k, mkV d arr.toList, ?_, fun k hk => ⟨updF_ne _ _ hk, rfl⟩, ?_, fun d' => ⟨fun e => updF_same _ _ _, fun ty' e => by cases e⟩⟩
          · have := h.moveBox (o := o) (x := .v d) (v := mkV d arr.toList) (l := loc (vk i)) (vk_mod i) hne ?_
            · have e1 : updF loc (vk i) (loc (vk i)) = loc := by funext k; unfold updF; split <;> simp_all
              rw [e1] at this
              have e2 : setAll σ [] [(vk i, PX.k o)] = updF σ (vk i) (σ o) := setAll_one ..
              show RelX C (ap Γ _ _ _) (setAll σ [] [(vk i, PX.k o)]) _ _ _ _ _ _
              rw [e2]
              exact this
            · refine ⟨arr.toList, ?_, ?_⟩
              · rw [updF_same]; exact hfit
              · rw [updF_same]; simp only [if_true]; exact g4.wide fun b hb => (g3 b hb).1
          · have hv : tmps.getD a undef = .pointer (some ⟨loc o, 0, none⟩) := by rw [← h.tm a]; exact hok.1
            simp only [resV, hv, asAddr]
            simp only [Sem.run_bind, Sem.run_pure, Result.andThen_ok]
            refine run_loadVar n2 g4.len (fun j u hu => ?_) hfit
            rw [add_zero_off]
            exact cell_of_heap g1 (by simpa using hu)
      · cases ht
    · cases ht

/-- What was taken stands under its key. -/
theorem takeOne_key (h : RelX C Γ σ val loc S F tmps w) {r : ResultVar} {i : Nat} {d : SD} {m : MS} (ht : takeOne C.P Γ r i = some (.v d, m)) : apm Γ m (vk i) = .v d := by
  unfold takeOne at ht
  split at ht
  · rename_i t
    split at ht
    · split at ht
      · split at ht
        · cases ht
        · simp at ht
      · cases ht
    · obtain ⟨⟨d', m'⟩, h1, h2⟩ := Option.map_eq_some_iff.1 ht
      simp only [Prod.mk.injEq, RM.v.injEq] at h2
      obtain ⟨rfl, rfl⟩ := h2
      obtain ⟨_, _, h3⟩ := take_ok h (vk_mod i) h1
      exact h3
  · split at ht
    · split at ht
      · split at ht
        · cases ht
        · simp only [Option.some.injEq, Prod.mk.injEq, RM.v.injEq] at ht
          obtain ⟨rfl, rfl⟩ := ht
          exact ap_at (by simp [look_cons])
      · cases ht
    · cases ht
theorem adj_ok {i : Nat} {rm : RM} {want : Option RM} (h : RelX C Γ σ val loc S F tmps w) (hk : ∀ d, rm = .v d → Γ (vk i) = .v d) : ∃ S' F', RelX C ((adj i rm want).2.foldl apm Γ) (preRun (adj i rm want).2 σ) val loc S' F' tmps w ∧
    (∀ d, (adj i rm want).1 = .v d → ∃ d0, rm = .v d0) ∧ ∀ t d, (adj i rm want).1 = .bx t d → rm = .bx t d := by
  have triv : (adj i rm want).2 = [] → (adj i rm want).1 = rm → _ := fun e1 e2 => (⟨S, F, by rw [e1]; exact h, fun d e => ⟨d, by rw [← e2]; exact e⟩, fun t d e => by rw [← e2]; exact e⟩ : ∃ S' F', RelX C ((adj i rm want).2.foldl apm Γ) (preRun (adj i rm want).2 σ) val loc S' F' tmps w ∧
    (∀ d, (adj i rm want).1 = .v d → ∃ d0, rm = .v d0) ∧ ∀ t d, (adj i rm want).1 = .bx t d → rm = .bx t d)
  cases rm with
  | bx t d => exact triv (by cases want <;> rfl) (by cases want <;> rfl)
  | v d =>
    cases want with
    | none => exact triv rfl rfl
    | some w' =>
      cases w' with
      | bx t d' => exact triv rfl rfl
      | v d' =>
        by_cases h1 : coe d d' = true
        · exact triv (by simp [adj, h1]) (by simp [adj, h1])
        · by_cases h2 : coe d.ro d' = true
          · have e : adj i (.v d) (some (.v d')) = (.v d.ro, [{ upd := [(vk i, .v d.ro)], sets := [] }]) := by simp [adj, h1, h2]
            rw [e]
            obtain ⟨S', F', h'⟩ := h.frz (hk d rfl) (.inl rfl : Fz d d.ro)
            exact ⟨S', F', h', fun d1 _ => ⟨d, rfl⟩, fun t d1 e => by cases e⟩
          · exact triv (by simp [adj, h1, h2]) (by simp [adj, h1, h2])
theorem takeRes_ok : ∀ (rs : List ResultVar) (ws : List RM) (i : Nat) {Γ : Nat → D} {σ : Nat → PV} {val : Nat → Value} {loc : Nat → Nat} {S : Nat → Set} {F : Set} {ds : List RM} {ms : List MS}, RelX C Γ σ val loc S F tmps w → takeRes C.P Γ rs ws i = some (ds, ms) →
    ∃ val' loc' S' F', RelX C (ms.foldl apm Γ) (preRun ms σ) val' loc' S' F' tmps w ∧ ds.length = rs.length ∧ (∀ k, (∀ j, k ≠ vk (i + j)) → val' k = val k ∧ loc' k = loc k) ∧
      ∀ (j : Nat) r rm, rs[j]? = some r → ds[j]? = some rm → ∃ v, (resV r tmps).run C.P w = .ok v w ∧ ∀ d, (rm = .v d → val' (vk (i + j)) = v) ∧ ∀ t, rm = .bx t d → v = .pointer (some ⟨loc' (vk (i + j)), 0, none⟩)
  | [], ws, i, Γ, σ, val, loc, S, F, ds, ms, h, ht => by
    simp only [takeRes, Option.some.injEq, Prod.mk.injEq] at ht
    obtain ⟨rfl, rfl⟩ := ht
    exact ⟨val, loc, S, F, h, rfl, fun k _ => ⟨rfl, rfl⟩, fun j r rm hj => by simp at hj⟩
  | r :: rs, ws, i, Γ, σ, val, loc, S, F, ds, ms, h, ht => by
    simp only [takeRes] at ht
    split at ht
    · rename_i rm m h1
      obtain ⟨⟨ds', ms'⟩, h2, h3⟩ := Option.map_eq_some_iff.1 ht
      simp only [Prod.mk.injEq] at h3
      obtain ⟨rfl, rfl⟩ := h3
      obtain ⟨val1, loc1, S1, v, g1, g2, g3, g4⟩ := takeOne_ok h h1
      obtain ⟨S1', F1', g1, hadj⟩ := adj_ok (rm := rm) (want := ws.head?) g1 (fun d e => takeOne_key (m := m) h (by rw [h1, e]))
      obtain ⟨val2, loc2, S2, F2, k1, k2, k3, k4⟩ := takeRes_ok rs ws.tail (i + 1) g1 h2
      have hvi : val2 (vk i) = val1 (vk i) ∧ loc2 (vk i) = loc1 (vk i) := k3 (vk i) fun j e => by unfold vk at e; omega
      refine ⟨val2, loc2, S2, F2, by
        have e1 : (m :: ((adj i rm ws.head?).2 ++ ms')).foldl apm Γ = ms'.foldl apm ((adj i rm ws.head?).2.foldl apm (apm Γ m)) := by rw [List.foldl_cons, List.foldl_append]
        have e2 : preRun (m :: ((adj i rm ws.head?).2 ++ ms')) σ = preRun ms' (preRun (adj i rm ws.head?).2 (setAll σ [] m.sets)) := by unfold preRun; rw [List.foldl_cons, List.foldl_append]
        rw [e1, e2]
        exact k1, by simp [k2], fun k hk => ?_, fun j r' rm' hj hd => ?_⟩
      · have e1 := k3 k fun j => by have := hk (j + 1); rwa [show i + (j + 1) = i + 1 + j by omega] at this
        have e2 := g2 k (by simpa using hk 0)
        exact ⟨e1.1.trans e2.1, e1.2.trans e2.2⟩
      · cases j with
        | zero =>
          simp only [List.getElem?_cons_zero, Option.some.injEq] at hj hd
          subst hj; subst hd
          refine ⟨v, g3, fun d => ⟨fun e => ?_, fun t e => ?_⟩⟩
          · obtain ⟨d0, e0⟩ := hadj.1 d e
            rw [Nat.add_zero, hvi.1]; exact (g4 d0).1 e0
          · rw [Nat.add_zero, hvi.2]; exact (g4 d).2 t (hadj.2 t d e)
        | succ j =>
          simp only [List.getElem?_cons_succ] at hj hd
          obtain ⟨v', e1, e2⟩ := k4 j r' rm' hj hd
          rw [show i + 1 + j = i + (j + 1) by omega] at e2
          exact ⟨v', e1, e2⟩
    · cases ht
end
end Go.Rsc
