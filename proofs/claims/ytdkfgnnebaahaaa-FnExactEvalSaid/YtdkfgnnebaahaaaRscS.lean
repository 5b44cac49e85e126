/- Rows that grow. No conditions. -/
import Derived.Test.YtdkfgnnebaahaaaRscR
namespace Go.Rsc
open Go.RowKit
set_option linter.unusedVariables false
set_option linter.unusedSimpArgs false

theorem take_elem {l : List Value} {sz n j : Nat} (hj : j < n) : elemAt (l.take (n * sz)) sz j = elemAt l sz j := by
  unfold elemAt
  have : j * sz + sz ≤ n * sz := by rw [← Nat.succ_mul]; exact Nat.mul_le_mul_right _ hj
  rw [List.drop_take, List.take_take, Nat.min_eq_left (by omega)]
theorem elemAt_left {A B : List Value} {sz n j : Nat} (hA : A.length = n * sz) (hj : j < n) : elemAt (A ++ B) sz j = elemAt A sz j := by
  have : (A ++ B).take (n * sz) = A := by rw [← hA, List.take_left]
  rw [← take_elem (l := A ++ B) hj, this]
theorem elemAt_right {A B : List Value} {sz n j : Nat} (hA : A.length = n * sz) : elemAt (A ++ B) sz (n + j) = elemAt B sz j := by
  unfold elemAt
  rw [Nat.add_mul, ← List.drop_drop, ← hA, List.drop_left]

section
variable {P : Program} {w w' : World} {F F' : Set} {Γ : Nat → D} {σ : Nat → PV} {val : Nat → Value} {loc : Nat → Nat} {S : Nat → Set} {C : Cx} {tmps : Array Value}
variable {d d' x y : SD} {cs c : List Value} {p q : PV} {T T' : Set}

/-- What a row gives to be put behind another one. -/
structure Gives (P : Program) (w : World) (F : Set) (E : SD) (v : Value) (qs : List PV) (T : Set) (news : List Value) (Ts : Nat → Set) : Prop where
  len : news.length = qs.length * E.sz
  val : (∃ c, v = .slice none 0 c ∧ qs = []) ∨ ∃ ad c, v = .slice (some ad) qs.length c ∧ ∀ j u, news[j]? = some u → w.cell? (ad.add j) = some u
  el : ∀ (j : Nat) q, qs[j]? = some q → R P w F E (elemAt news E.sz j) q (Ts j)
  sub : ∀ j b, Ts j b → T b
  dj : ∀ i j b, Ts i b → Ts j b → i = j

theorem R.src {e : TypeId} {m : Bool} {v : Value} {qs : List PV} (h : R P w F (.own e m) [v] (.list qs) T) : ∃ news Ts, Gives P w F (el P m e) v qs T news Ts := by
  cases h with
  | onil => exact ⟨[], fun _ => Set.none, by simp, .inl ⟨0, rfl, rfl⟩, fun j q hq => by simp at hq, fun j b hb => hb.elim, fun i j b hb => hb.elim⟩
  | own _ _ b n c arr ps _ Ss h1 h2 h3 h4 h5 h6 h7 h8 h9 h10 h11 =>
    subst h5
    have hle : qs.length * (el P m e).sz ≤ arr.toList.length := by rw [Array.length_toList (xs := arr), h4]; exact Nat.mul_le_mul_right _ h2
    refine ⟨arr.toList.take (qs.length * (el P m e).sz), Ss, by rw [List.length_take]; omega, .inr ⟨_, c, rfl, fun j u hu => ?_⟩, fun j q hq => ?_, h8, h10⟩
    · rw [List.getElem?_take] at hu
      split at hu
      · rw [add_zero_off]
        exact cell_of_heap h1 (by simpa using hu)
      · cases hu
    · rw [take_elem (List.getElem?_eq_some_iff.1 hq).1]
      exact h11 j q hq

theorem R.ofFlat (h : R P w F d cs p T) : flatS d = true → ∀ {w' : World} {F' T' : Set}, R P w' F' d cs p T' := by
  induction h with
  | int => intros; exact .int ..
  | bool => intros; exact .bool ..
  | str => intros; exact .str ..
  | nl => intros; exact .nl _
  | sn => intros; exact .sn _
  | sc d ds c cs p ps S S1 S2 _ _ h3 h4 h5 ih1 ih2 =>
    intro hf w' F' T'
    simp only [flatS, Bool.and_eq_true] at hf
    exact .sc d ds c cs p ps _ Set.none Set.none (ih1 hf.1) (ih2 hf.2) (fun _ h => h.elim) (fun _ h => h.elim) (fun _ h => h.elim)
  | mz => intros; exact .mz _
  | inil => intros; exact .inil _
  | isome => intros; exact .isome ..
  | np => intros; exact .np _
  | dead | bor | onil | own | mp | sb | fnil | fp | frec => intro hf; simp [flatS] at hf

theorem R.srcBorG {e : TypeId} {v : Value} {qs : List PV} (h : R P w F (.bor e) [v] (.list qs) T) (hf : ∀ cs p, R P w F (sdOf P e) cs p Set.none → R P w F' (sdOf P e) cs p Set.none) (hz : 0 < (sdOf P e).sz) : ∃ news, Gives P w F' (sdOf P e) v qs Set.none news (fun _ => Set.none) := by
  cases h with
  | bor _ A n c ps _ css g1 g2 g3 g4 g5 =>
    subst g1
    have hls : ∀ l ∈ (List.range qs.length).map css, l.length = (sdOf P e).sz := by
      intro l hl
      obtain ⟨j, hj, rfl⟩ := List.mem_map.1 hl
      exact g3 j (List.mem_range.1 hj)
    have hat : ∀ j, j < qs.length → ((List.range qs.length).map css)[j]? = some (css j) := fun j hj => by rw [List.getElem?_map, List.getElem?_range hj]; rfl
    refine ⟨((List.range qs.length).map css).flatten, by rw [flatten_length _ hls]; simp, ?_, fun j q hq => ?_, fun j b hb => hb, fun i j b hb => hb.elim⟩
    · by_cases h0 : qs.length = 0
      · have : qs = [] := List.eq_nil_of_length_eq_zero h0
        subst this
        cases A with
        | none => exact .inl ⟨c, rfl, rfl⟩
        | some ad => exact .inr ⟨ad, c, rfl, fun j u hu => by simp at hu⟩
      · have hl0 := g3 0 (by omega)
        obtain ⟨ad, rfl, _⟩ := g4 0 (by omega) 0 _ (List.getElem?_eq_getElem (by omega))
        refine .inr ⟨ad, c, rfl, fun k u hu => ?_⟩
        have hlen : (((List.range qs.length).map css).flatten).length = qs.length * (sdOf P e).sz := by rw [flatten_length _ hls]; simp
        have hk : k < qs.length * (sdOf P e).sz := by rw [← hlen]; exact (List.getElem?_eq_some_iff.1 hu).1
        have hj : k / (sdOf P e).sz < qs.length := Nat.div_lt_of_lt_mul (by rw [Nat.mul_comm]; exact hk)
        have hel := elemAt_flatten _ (k / (sdOf P e).sz) _ hls (hat _ hj)
        have hmod := Nat.mod_lt k hz
        have hkk : k / (sdOf P e).sz * (sdOf P e).sz + k % (sdOf P e).sz = k := Nat.div_add_mod' k _
        have : (css (k / (sdOf P e).sz))[k % (sdOf P e).sz]? = some u := by
          rw [← hel]
          unfold elemAt
          rw [List.getElem?_take, if_pos hmod, List.getElem?_drop, hkk]
          exact hu
        obtain ⟨ad', e1, _, e2⟩ := g4 _ hj _ _ this
        simp only [Option.some.injEq] at e1
        subst e1
        rwa [hkk] at e2
    · have hj := (List.getElem?_eq_some_iff.1 hq).1
      rw [elemAt_flatten _ j _ hls (hat j hj)]
      exact hf _ _ (g5 j q hq)
theorem R.srcBor {e : TypeId} {v : Value} {qs : List PV} (h : R P w F (.bor e) [v] (.list qs) T) (hf : flatS (sdOf P e) = true) (hz : 0 < (sdOf P e).sz) : ∃ news, Gives P w F' (sdOf P e) v qs Set.none news (fun _ => Set.none) :=
  R.srcBorG h (fun _ _ h => h.ofFlat hf) hz
theorem flatS_plain : ∀ {d : SD}, flatS d = true → d.plain = true
  | .sc a b, h => by
    simp only [flatS, Bool.and_eq_true] at h
    simp only [SD.plain, flatS_plain h.1, flatS_plain h.2, Bool.and_self]
  | .own _ _, h | .mp _, h | .sb _, h | .bor _, h | .fp _, h | .dead _, h => by simp [flatS] at h
  | .int _, _ | .bool, _ | .str, _ | .nl, _ | .mz, _ | .ifc, _ | .np, _ | .sn, _ => rfl

theorem Gives.one {E : SD} {v : Value} {qs : List PV} {news : List Value} {Ts : Nat → Set} (h : Gives P w F E v qs T news Ts) (hd : hasDead E = false) (hz : 0 < E.sz) : ∀ u ∈ news, u.oneCell' = true := by
  intro u hu
  obtain ⟨k, hk⟩ := List.getElem?_of_mem hu
  have hlt : k < qs.length * E.sz := by rw [← h.len]; exact (List.getElem?_eq_some_iff.1 hk).1
  have hj : k / E.sz < qs.length := Nat.div_lt_of_lt_mul (by rw [Nat.mul_comm]; exact hlt)
  have hmod := Nat.mod_lt k hz
  have hkk : k / E.sz * E.sz + k % E.sz = k := Nat.div_add_mod' k _
  have hR := h.el _ _ (getD_some hj .unit)
  refine hR.oneCell hd u (List.mem_of_getElem? (i := k % E.sz) ?_)
  unfold elemAt
  rw [List.getElem?_take, if_pos hmod, List.getElem?_drop, hkk]
  exact hk

/-- A row of one's own, and another one's elements behind it. -/
theorem run_append {e t ty : TypeId} {m : Bool} {i : TypeInfo} {z : Value} (ht : P.underlying t = some (.slice e)) (hi : P.info? e = some i) (hz : i.zero = some z) (hsize : i.size = (el P m e).sz) (hzs : z.cells.size = i.size) (hsz : 0 < i.size) (hnb : 0 < i.bytes)
    {v v2 : Value} {ps qs : List PV} {news : List Value} {Ts : Nat → Set} {d0 : SD} (hd0 : d0 = .nl ∨ d0 = .own e m) (hR : R P w F d0 [v] (.list ps) T) (hsrc : Gives P w F (el P m e) v2 qs T' news Ts) (hone : ∀ u ∈ news, u.oneCell' = true)
    (hfit : (ps.length + qs.length) * i.bytes ≤ 140737488355328)
    (hTz : ∀ b, T b → b < w.heap.size) (hTz' : ∀ b, T' b → b < w.heap.size) (hFz : ∀ b, F b → b < w.heap.size) (hTT : ∀ b, T b → T' b → False) (hTF : ∀ b, T b → F b → False) (hTF' : ∀ b, T' b → F b → False) :
    ∃ v' w' T'', (Builtin.append_ #[t, t] ty #[v, v2]).run P w = .ok v' w' ∧ R P w' F (.own e m) [v'] (.list (ps ++ qs)) T'' ∧ (∀ b, T'' b → (T b ∨ T' b) ∨ (w.heap.size ≤ b ∧ b < w'.heap.size)) ∧
      w'.os = w.os ∧ w'.tape = w.tape ∧ w'.output = w.output ∧ w.heap.size ≤ w'.heap.size ∧ (∀ b, b < w.heap.size → ¬ T b → w'.heap[b]? = w.heap[b]?) := by
  have hmax : ps.length + qs.length ≤ 140737488355328 := Nat.le_trans (Nat.le_mul_of_pos_right _ hnb) hfit
  -- the row that comes out
  have fin : ∀ (g cap : Nat) (cur : Array Value) (w' : World) (xs : List Value) (Ss : Nat → Set), w'.heap[g]? = some (.cells cur e (0, 0)) → ps.length + qs.length ≤ cap → cap ≤ maxLen → cur.size = cap * i.size → xs.length = ps.length * i.size → cur.toList.take ((ps.length + qs.length) * i.size) = xs ++ news →
      (∀ (j : Nat) p, ps[j]? = some p → R P w F (el P m e) (elemAt xs i.size j) p (Ss j)) → (∀ j b, Ss j b → T b) → (∀ j b, Ss j b → b ≠ g) → (∀ i j b, Ss i b → Ss j b → i = j) → (∀ b, T' b → b ≠ g) → (∀ b, F b → b ≠ g) → (∀ b, b < w.heap.size → b ≠ g → w'.heap[b]? = w.heap[b]?) → (T g ∨ (w.heap.size ≤ g ∧ g < w'.heap.size)) →
      R P w' F (.own e m) [.slice (some ⟨g, 0, none⟩) (ps.length + qs.length) cap] (.list (ps ++ qs)) (fun b => b = g ∨ T b ∨ T' b) := by
    intro g cap cur w' xs Ss h1 h2 h3 h4 h5 h6 h7 h8 h9 h10 h11 h12 h13 h14
    refine .own e m g _ cap cur _ _ (fun j b => if j < ps.length then Ss j b else Ts (j - ps.length) b) h1 h2 h3 (by rw [h4, hsize]) (by simp) (by omega) (.inl rfl) (fun j b hb => ?_) (fun j b hb => ?_) (fun i' j b hb hb' => ?_) (fun j p hp => ?_)
    · split at hb
      · exact .inr (.inl (h8 j b hb))
      · exact .inr (.inr (hsrc.sub _ b hb))
    · split at hb
      · exact h9 j b hb
      · exact h11 b (hsrc.sub _ b hb)
    · by_cases a1 : i' < ps.length <;> by_cases a2 : j < ps.length
      · simp only [a1, a2, if_true] at hb hb'; exact h10 _ _ b hb hb'
      · simp only [a1, a2, if_true, if_false] at hb hb'; exact (hTT b (h8 _ b hb) (hsrc.sub _ b hb')).elim
      · simp only [a1, a2, if_true, if_false] at hb hb'; exact (hTT b (h8 _ b hb') (hsrc.sub _ b hb)).elim
      · simp only [a1, a2, if_false] at hb hb'
        have := hsrc.dj _ _ b hb hb'
        omega
    · have hjlt : j < ps.length + qs.length := by have := (List.getElem?_eq_some_iff.1 hp).1; simpa using this
      rw [← hsize, ← take_elem (l := cur.toList) hjlt, h6]
      have same : ∀ b, (F b ∨ T b ∨ T' b) → b ≠ g → w'.heap[b]? = w.heap[b]? := fun b hb hne => h13 b (by rcases hb with hb | hb | hb; exact hFz b hb; exact hTz b hb; exact hTz' b hb) hne
      by_cases hj : j < ps.length
      · simp only [hj, if_true]
        rw [List.getElem?_append_left hj] at hp
        rw [elemAt_left h5 hj]
        exact (h7 j p hp).imp (fun b hb => hb) (fun b hb => hb) (fun b hb => by
          rcases hb with hb | hb
          · exact same b (.inl hb) (h12 b hb)
          · exact same b (.inr (.inl (h8 j b hb))) (h9 j b hb))
      · simp only [hj, if_false]
        rw [List.getElem?_append_right (by omega)] at hp
        have : j = ps.length + (j - ps.length) := by omega
        rw [show elemAt (xs ++ news) i.size j = elemAt (xs ++ news) i.size (ps.length + (j - ps.length)) by rw [← this], elemAt_right h5]
        have := hsrc.el (j - ps.length) p hp
        rw [← hsize] at this
        exact this.imp (fun b hb => hb) (fun b hb => hb) (fun b hb => by
          rcases hb with hb | hb
          · exact same b (.inl hb) (h12 b hb)
          · exact same b (.inr (.inr (hsrc.sub _ b hb))) (h11 b (hsrc.sub _ b hb)))
  have hnl : news.length = qs.length * i.size := by rw [hsize]; exact hsrc.len
  -- nil or a row
  have hv : (v = .slice none 0 0 ∧ ps = []) ∨ ∃ (b cap : Nat) (arr : Array Value) (Ss : Nat → Set), v = .slice (some ⟨b, 0, none⟩) ps.length cap ∧ w.heap[b]? = some (.cells arr e (0, 0)) ∧ ps.length ≤ cap ∧ cap ≤ maxLen ∧ arr.size = cap * i.size ∧ T b ∧ (∀ j x, Ss j x → T x) ∧ (∀ j x, Ss j x → x ≠ b) ∧ (∀ i j x, Ss i x → Ss j x → i = j) ∧ (∀ (j : Nat) (p : PV), ps[j]? = some p → R P w F (el P m e) (elemAt arr.toList i.size j) p (Ss j)) := by
    rcases hd0 with rfl | rfl
    · cases hR; exact .inl ⟨rfl, rfl⟩
    · cases hR with
      | onil => exact .inl ⟨rfl, rfl⟩
      | own _ _ b n c arr _ _ Ss h1 h2 h3 h4 h5 h6 h7 h8 h9 h10 h11 =>
        subst h5
        exact .inr ⟨b, c, arr, Ss, rfl, h1, h2, h3, by rw [h4, hsize], h7, h8, h9, h10, by rw [hsize]; exact h11⟩
  rcases hsrc.val with ⟨c2, rfl, rfl⟩ | ⟨ad, c2, rfl, hcells⟩
  · -- nothing is put behind it
    refine ⟨v, w, T, ?_, ?_, fun b hb => .inl (.inl hb), rfl, rfl, rfl, Nat.le_refl _, fun _ _ _ => rfl⟩
    · rcases hv with ⟨rfl, rfl⟩ | ⟨b, cap, arr, Ss, rfl, h1, h2, _⟩
      · simp [Builtin.append_, run_underlying ht, sizeOf, typeInfo, hi, Builtin.lenOf, Builtin.firstCells]
      · simp [Builtin.append_, run_underlying ht, sizeOf, typeInfo, hi, Builtin.lenOf, Builtin.firstCells, h2, storeCells]
    · rw [List.append_nil]
      rcases hd0 with rfl | rfl
      · cases hR; exact .onil ..
      · exact hR
  · rcases hv with ⟨rfl, rfl⟩ | ⟨b, cap, arr, Ss, rfl, h1, h2, h3, h4, h5, h6, h7, h8, h9⟩
    · by_cases hq : qs.length = 0
      · have : qs = [] := List.eq_nil_of_length_eq_zero hq
        subst this
        refine ⟨.slice none 0 0, w, T, ?_, .onil .., fun b hb => .inl (.inl hb), rfl, rfl, rfl, Nat.le_refl _, fun _ _ _ => rfl⟩
        simp [Builtin.append_, run_underlying ht, sizeOf, typeInfo, hi, Builtin.lenOf, Builtin.firstCells, loadCells, loadCellsFrom]
      · have hr := run_append_nil (P := P) w t ty e i z ht hi hz ad qs.length c2 news hnl hcells (by omega) (by simp at hmax; omega) (by simp at hfit; omega)
        have hge := grownCap_ge w qs.length 0 e
        have hcm := grownCap_le_maxLen w qs.length 0 e (by simp at hmax; simp only [maxLen]; omega)
        refine ⟨_, _, (fun b => b = w.heap.size ∨ T b ∨ T' b), hr, ?_, fun b hb => ?_, rfl, rfl, rfl, by simp, fun b hb _ => heap_alloc_old w.drew _ b hb⟩
        · have := fin w.heap.size (grownCap w qs.length 0 e) (news.toArray ++ Builtin.zeroCells z.cells (grownCap w qs.length 0 e - qs.length)) (w.drew.alloc (.cells (news.toArray ++ Builtin.zeroCells z.cells (grownCap w qs.length 0 e - qs.length)) e)) [] (fun _ => Set.none) (heap_alloc_new w.drew _) (by simpa using hge) hcm (by
              simp only [Array.size_append, List.size_toArray, size_zeroCells, hzs, hnl, ← Nat.add_mul]; congr 1; omega) (by simp) (by
              simp only [List.length_nil, Nat.zero_add, List.nil_append, Array.toList_append]; rw [← hnl]; exact List.take_left) (fun j p hp => by simp at hp) (fun j b hb => hb.elim) (fun j b hb => hb.elim) (fun i j b hb => hb.elim)
              (fun b hb => by have := hTz' b hb; omega) (fun b hb => by have := hFz b hb; omega) (fun b hb _ => heap_alloc_old w.drew _ b hb) (.inr ⟨Nat.le_refl _, by simp⟩)
          simpa using this
        · rcases hb with rfl | hb | hb
          · exact .inr ⟨Nat.le_refl _, by simp⟩
          · exact .inl (.inl hb)
          · exact .inl (.inr hb)
    · have hxs : (arr.toList.take (ps.length * i.size)).length = ps.length * i.size := by
        rw [List.length_take, Array.length_toList (xs := arr), h4]
        exact Nat.min_eq_left (Nat.mul_le_mul_right _ h2)
      have hbF : ∀ b', F b' → b' ≠ b := fun b' hb' e => hTF b h5 (e ▸ hb')
      have hbT' : ∀ b', T' b' → b' ≠ b := fun b' hb' e => hTT b h5 (e ▸ hb')
      have hel : ∀ (j : Nat) p, ps[j]? = some p → R P w F (el P m e) (elemAt (arr.toList.take (ps.length * i.size)) i.size j) p (Ss j) := fun j p hp => by
        rw [take_elem (List.getElem?_eq_some_iff.1 hp).1]; exact h9 j p hp
      by_cases hroom : ps.length + qs.length ≤ cap
      · have hfit' : ps.length * i.size + news.length ≤ arr.size := by rw [hnl, h4, ← Nat.add_mul]; exact Nat.mul_le_mul_right _ hroom
        have hr := run_append_room (P := P) w t ty e i ht hi b ps.length cap arr h1 ad qs.length c2 news hnl hcells hone hroom hfit'
        refine ⟨_, _, _, hr, fin b cap _ _ _ Ss (setRow_heap w b arr _ e _ h1) hroom h3 ?_ hxs ?_ hel h6 h7 h8 hbT' hbF (fun b' _ hne => setRow_other w b b' _ hne) (.inl h5), fun b' hb' => ?_, rfl, rfl, rfl, by simp, fun b' _ hb' => setRow_other w b b' _ (fun e => hb' (e ▸ h5))⟩
        · simp only [List.size_toArray, List.length_append, List.length_take, List.length_drop, Array.length_toList]
          omega
        · rw [Nat.add_mul, ← hnl]
          have : (arr.toList.take (ps.length * i.size) ++ news).length = ps.length * i.size + news.length := by rw [List.length_append, hxs]
          rw [← this]
          exact List.take_left
        · rcases hb' with rfl | hb' | hb'
          · exact .inl (.inl h5)
          · exact .inl (.inl hb')
          · exact .inl (.inr hb')
      · have holds : ∀ j u, (arr.toList.take (ps.length * i.size))[j]? = some u → w.cell? ((⟨b, 0, none⟩ : Addr).add j) = some u := by
          intro j u hu
          rw [List.getElem?_take] at hu
          split at hu
          · rw [add_zero_off]; exact cell_of_heap h1 (by simpa using hu)
          · cases hu
        have hr := run_append_grow (P := P) w t ty e i z ht hi hz ⟨b, 0, none⟩ ps.length cap _ hxs holds ad qs.length c2 news hnl hcells (by omega) (by omega) (growslice_fits (by omega) hfit)
        have hge := grownCap_ge w (ps.length + qs.length) cap e
        have hcm := grownCap_le_maxLen w (ps.length + qs.length) cap e (by simp only [maxLen]; omega)
        refine ⟨_, _, _, hr, fin w.heap.size _ _ _ _ Ss (heap_alloc_new w.drew _) hge hcm ?_ hxs ?_ hel h6 (fun j b' hb' => by have := hTz b' (h6 j b' hb'); omega) h8 (fun b' hb' => by have := hTz' b' hb'; omega) (fun b' hb' => by have := hFz b' hb'; omega) (fun b' hb' _ => heap_alloc_old w.drew _ b' hb') (.inr ⟨Nat.le_refl _, by simp⟩), fun b' hb' => ?_, rfl, rfl, rfl, by simp, fun b' hb' _ => heap_alloc_old w.drew _ b' hb'⟩
        · simp only [Array.size_append, List.size_toArray, size_zeroCells, hzs, hxs, hnl, ← Nat.add_mul]
          congr 1
          omega
        · rw [Nat.add_mul, ← hnl]
          simp only [Array.toList_append, List.append_assoc]
          have : (arr.toList.take (ps.length * i.size) ++ news).length = ps.length * i.size + news.length := by rw [List.length_append, hxs]
          rw [← List.append_assoc, ← this]
          exact List.take_left
        · rcases hb' with rfl | hb' | hb'
          · exact .inr ⟨Nat.le_refl _, by simp⟩
          · exact .inl (.inl hb')
          · exact .inl (.inr hb')

/-- What a row was is still there when others are put behind it. -/
theorem run_append_keep {e t ty : TypeId} {m : Bool} {i : TypeInfo} {z : Value} (ht : P.underlying t = some (.slice e)) (hi : P.info? e = some i) (hz : i.zero = some z) (hsize : i.size = (el P m e).sz) (hsz : 0 < i.size) (hnb : 0 < i.bytes)
    {v v2 : Value} {ps qs : List PV} {news : List Value} {Ts : Nat → Set} {ki : IntKind} (hel : el P m e = .int ki) (hR : R P w F (.own e m) [v] (.list ps) T) (hsrc : Gives P w F (el P m e) v2 qs T' news Ts) (hone : ∀ u ∈ news, u.oneCell' = true)
    (hfit : (ps.length + qs.length) * i.bytes ≤ 140737488355328) {v' : Value} {w' : World} (hrun : (Builtin.append_ #[t, t] ty #[v, v2]).run P w = .ok v' w') : R P w' F (.own e m) [v] (.list ps) T := by
  have hmax : ps.length + qs.length ≤ 140737488355328 := Nat.le_trans (Nat.le_mul_of_pos_right _ hnb) hfit
  have hnl : news.length = qs.length * i.size := by rw [hsize]; exact hsrc.len
  cases hR with
  | onil => exact .onil ..
  | own _ _ b n c arr _ _ Ss h1 h2 h3 h4 h5 h6 h7 h8 h9 h10 h11 =>
    subst h5
    have hb : b < w.heap.size := (Array.getElem?_eq_some_iff.1 h1).1
    have hac : arr.size = c * i.size := by rw [h4, hsize]
    have hxs : (arr.toList.take (ps.length * i.size)).length = ps.length * i.size := by
      rw [List.length_take, Array.length_toList (xs := arr), hac]
      exact Nat.min_eq_left (Nat.mul_le_mul_right _ h2)
    have key : ∃ arr' : Array Value, w'.heap[b]? = some (.cells arr' e (0, 0)) ∧ arr'.size = arr.size ∧ arr'.toList.take (ps.length * i.size) = arr.toList.take (ps.length * i.size) := by
      rcases hsrc.val with ⟨c2, rfl, rfl⟩ | ⟨ad, c2, rfl, hcells⟩
      · have hr : (Builtin.append_ #[t, t] ty #[.slice (some ⟨b, 0, none⟩) ps.length c, .slice none 0 c2]).run P w = .ok (.slice (some ⟨b, 0, none⟩) ps.length c) w := by
          simp [Builtin.append_, run_underlying ht, sizeOf, typeInfo, hi, Builtin.lenOf, Builtin.firstCells, h2, storeCells]
        rw [hr] at hrun
        cases hrun
        exact ⟨arr, h1, rfl, rfl⟩
      · by_cases hroom : ps.length + qs.length ≤ c
        · have hfit' : ps.length * i.size + news.length ≤ arr.size := by rw [hnl, hac, ← Nat.add_mul]; exact Nat.mul_le_mul_right _ hroom
          have hr := run_append_room (P := P) w t ty e i ht hi b ps.length c arr h1 ad qs.length c2 news hnl hcells hone hroom hfit'
          rw [hr] at hrun
          cases hrun
          refine ⟨_, setRow_heap w b arr _ e _ h1, ?_, ?_⟩
          · simp only [List.size_toArray, List.length_append, List.length_take, List.length_drop, Array.length_toList]
            omega
          · rw [List.toList_toArray, List.append_assoc, List.take_append_of_le_length (by omega), List.take_of_length_le (by omega)]
        · have holds : ∀ j u, (arr.toList.take (ps.length * i.size))[j]? = some u → w.cell? ((⟨b, 0, none⟩ : Addr).add j) = some u := by
            intro j u hu
            rw [List.getElem?_take] at hu
            split at hu
            · rw [add_zero_off]; exact cell_of_heap h1 (by simpa using hu)
            · cases hu
          have hr := run_append_grow (P := P) w t ty e i z ht hi hz ⟨b, 0, none⟩ ps.length c _ hxs holds ad qs.length c2 news hnl hcells (by omega) (by omega) (growslice_fits (by omega) hfit)
          rw [hr] at hrun
          cases hrun
          exact ⟨arr, (heap_alloc_old w.drew _ b hb).trans h1, rfl, rfl⟩
    obtain ⟨arr', k1, k2, k3⟩ := key
    refine .own e m b _ c arr' _ _ Ss k1 h2 h3 (by rw [k2, h4]) rfl h6 h7 h8 h9 h10 fun j p hp => ?_
    have hj := (List.getElem?_eq_some_iff.1 hp).1
    have hR' := h11 j p hp
    rw [← hsize] at hR' ⊢
    rw [← take_elem (l := arr'.toList) hj, k3, take_elem hj]
    exact hR'.ofFlat (by rw [hel]; rfl)

/-! ### A string's bytes behind a row -/
theorem run_firstCells_str (P : Program) (w : World) (size : Nat) (s : ByteArray) : (Builtin.firstCells size s.size (.string s)).run P w = .ok (s.data.map fun b => Value.int .u8 b.toNat) w := by
  have hx : (Array.map (fun b : UInt8 => Value.int IntKind.u8 (b.toNat : Int)) s.data).extract 0 s.size = Array.map (fun b : UInt8 => Value.int IntKind.u8 (b.toNat : Int)) s.data := by
    have hs : s.size = (Array.map (fun b : UInt8 => Value.int IntKind.u8 (b.toNat : Int)) s.data).size := by rw [Array.size_map]; rfl
    rw [hs, Array.extract_size]
  simp [Builtin.firstCells, hx]
theorem run_storeCells_fr (P : Program) (g o : Nat) (t : TypeId) (fr : Nat × Nat) : ∀ (vs : List Value) (i : Nat) (cur : Array Value) (w : World), w.heap[g]? = some (.cells cur t fr) → (cur.size ≤ fr.1 ∨ fr = (0, 0)) → o + i + vs.length ≤ cur.size → (∀ v ∈ vs, v.oneCell' = true) →
    (storeCells ⟨g, o, none⟩ vs i).run P w = .ok () (w.setRow g (cur.toList.take (o + i) ++ vs ++ cur.toList.drop (o + i + vs.length)).toArray)
  | [], i, cur, w, hg, _, _, _ => by
    simp only [storeCells, List.append_nil, List.length_nil, Nat.add_zero, List.take_append_drop, Array.toArray_toList]
    rw [setRow_self w g cur t fr hg]
    rfl
  | v :: rest, i, cur, w, hg, hfr, hl, h1 => by
    have hi : o + i < cur.size := by simp at hl; omega
    have hadd : (⟨g, o, none⟩ : Addr).add i = ⟨g, o + i, none⟩ := by unfold Addr.add; split <;> simp_all
    have hcell : w.cell? ⟨g, o + i, none⟩ = some cur[o + i] := by simp [World.cell?, hg, hi]
    have hfro : w.frozen? ⟨g, o + i, none⟩ = false := by
      obtain ⟨lo, hi2⟩ := fr
      simp only [World.frozen?, hg]
      rcases hfr with h | h
      · simp only at h
        simp
        omega
      · cases h; simp
    have hst : (store ((⟨g, o, none⟩ : Addr).add i) v).run P w = .ok () (w.setRow g (cur.setIfInBounds (o + i) v)) := by
      rw [hadd, run_store P w _ v _ (h1 v (by simp)), hcell]
      simp [hfro, setCell_eq_setRow w g (o + i) cur t fr v hg]
    have ih := run_storeCells_fr P g o t fr rest (i + 1) (cur.setIfInBounds (o + i) v) (w.setRow g (cur.setIfInBounds (o + i) v)) (setRow_heap w g cur _ t _ hg) (by simpa using hfr) (by simp at hl ⊢; omega) (fun x hx => h1 x (by simp [hx]))
    simp only [storeCells, Sem.run_bind, hst, Result.andThen_ok, ih, setRow_setRow]
    congr 3
    have e := list_seg_step cur.toList (o + i) v rest (by simp at hl ⊢; omega)
    simpa [Array.toList_setIfInBounds, Nat.add_assoc] using e
abbrev byteV (s : ByteArray) : List Value := s.data.toList.map fun b => Value.int .u8 b.toNat
theorem byteV_len (s : ByteArray) : (byteV s).length = s.size := by rw [List.length_map, Array.length_toList]; rfl
/-- What is of a string in a row: whole numbers below 256. -/
def BIs (arr : Array Value) (ps : List PV) : Prop := ∀ (j : Nat) (p : PV), ps[j]? = some p → ∃ x, p = .int x ∧ arr[j]? = some (.int .u8 x)
theorem BIs.app {arr : Array Value} {ps : List PV} {xs tl : List Value} {s : ByteArray} (hx : xs.length = ps.length) (h : ∀ (j : Nat) (p : PV), ps[j]? = some p → ∃ x, p = .int x ∧ xs[j]? = some (.int .u8 x)) (e : arr.toList = xs ++ byteV s ++ tl) :
    BIs arr (ps ++ s.data.toList.map fun b => PV.int b.toNat) := by
  intro j p hp
  rw [← Array.getElem?_toList, e]
  have hj : j < ps.length + s.data.toList.length := by have := (List.getElem?_eq_some_iff.1 hp).1; simpa using this
  have hbl := byteV_len s
  have hsz : s.data.toList.length = s.size := by rw [Array.length_toList]; rfl
  rw [List.getElem?_append_left (by simp only [List.length_append]; omega)]
  by_cases hjp : j < ps.length
  · rw [List.getElem?_append_left hjp] at hp
    obtain ⟨x, h1, h2⟩ := h j p hp
    exact ⟨x, h1, by rw [List.getElem?_append_left (by omega)]; exact h2⟩
  · rw [List.getElem?_append_right (by omega)] at hp
    rw [List.getElem?_append_right (by omega), hx]
    rw [List.getElem?_map] at hp ⊢
    cases hb : s.data.toList[j - ps.length]? with
    | none => rw [hb] at hp; cases hp
    | some b =>
      rw [hb] at hp
      simp only [Option.map_some, Option.some.injEq] at hp
      exact ⟨_, hp.symm, rfl⟩
theorem run_append_str {e t u ty : TypeId} {i : TypeInfo} {z : Value} (ht : P.underlying t = some (.slice e)) (hu : P.underlying u = some .string) (hi : P.info? e = some i) (hz : i.zero = some z) (hsize : i.size = 1) (hzs : z.cells.size = 1) (hnb : 0 < i.bytes)
    (hel : sdOf P e = .int .u8) {v : Value} {ps : List PV} {s : ByteArray} {d0 d : SD} (hd : (d0 = .sb e ∧ d = .sb e) ∨ ((d0 = .nl ∨ d0 = .own e false) ∧ d = .own e false)) (hR : R P w F d0 [v] (.list ps) T)
    (hfit : (ps.length + s.size) * i.bytes ≤ 140737488355328) (hTz : ∀ b, T b → b < w.heap.size) :
    ∃ v' w' T'', (Builtin.append_ #[t, u] ty #[v, .string s]).run P w = .ok v' w' ∧ R P w' F d [v'] (.list (ps ++ s.data.toList.map fun b => PV.int b.toNat)) T'' ∧ (∀ b, T'' b → T b ∨ (w.heap.size ≤ b ∧ b < w'.heap.size)) ∧
      w'.os = w.os ∧ w'.tape = w.tape ∧ w'.output = w.output ∧ w.heap.size ≤ w'.heap.size ∧ (∀ b, b < w.heap.size → ¬ T b → w'.heap[b]? = w.heap[b]?) := by
  have hmax : ps.length + s.size ≤ 140737488355328 := Nat.le_trans (Nat.le_mul_of_pos_right _ hnb) hfit
  have hel' : el P false e = .int .u8 := hel
  have hsz0 : s.data.toList.length = s.size := by rw [Array.length_toList]; rfl
  -- the row that comes out
  have fin : ∀ (g cap : Nat) (cur : Array Value) (fr : Nat × Nat) (w' : World), w'.heap[g]? = some (.cells cur e fr) → (cur.size ≤ fr.1 ∨ fr = (0, 0)) → (d = .own e false → fr = (0, 0)) → ps.length + s.size ≤ cap → cap ≤ maxLen → cur.size = cap → BIs cur (ps ++ s.data.toList.map fun b => PV.int b.toNat) →
      R P w' F d [.slice (some ⟨g, 0, none⟩) (ps.length + s.size) cap] (.list (ps ++ s.data.toList.map fun b => PV.int b.toNat)) (fun b => b = g) := by
    intro g cap cur fr w' h1 h2 h3 h4 h5 h6 h7
    rcases hd with ⟨_, rfl⟩ | ⟨_, rfl⟩
    · exact .sb e g _ cap cur fr _ _ h1 h2 h4 h5 h6 (by simp [hsz0]) hel rfl h7
    · have := h3 rfl
      subst this
      refine .own e false g _ cap cur _ _ (fun _ => Set.none) h1 h4 h5 (by rw [hel']; simp [SD.sz, h6]) (by simp [hsz0]) (by rw [hel']; simp [SD.sz]) rfl (fun _ _ h => h.elim) (fun _ _ h => h.elim) (fun _ _ _ h => h.elim) (fun j p hp => ?_)
      obtain ⟨x, rfl, hx⟩ := h7 j p hp
      have he : elemAt cur.toList (el P false e).sz j = [.int .u8 x] := by
        rw [hel']
        unfold elemAt
        simp only [SD.sz, Nat.mul_one]
        have hj : cur.toList[j]? = some (.int .u8 x) := by rw [Array.getElem?_toList]; exact hx
        obtain ⟨hl, hy⟩ := List.getElem?_eq_some_iff.1 hj
        rw [List.drop_eq_getElem_cons hl, hy]
        rfl
      rw [he, hel']
      exact .int ..
  -- nil or a row
  have hv : (v = .slice none 0 0 ∧ ps = [] ∧ d = .own e false) ∨ ∃ (b cap : Nat) (arr : Array Value) (fr : Nat × Nat), v = .slice (some ⟨b, 0, none⟩) ps.length cap ∧ w.heap[b]? = some (.cells arr e fr) ∧ (arr.size ≤ fr.1 ∨ fr = (0, 0)) ∧ (d = .own e false → fr = (0, 0)) ∧ ps.length ≤ cap ∧ cap ≤ maxLen ∧ arr.size = cap ∧ T b ∧ BIs arr ps := by
    rcases hd with ⟨rfl, rfl⟩ | ⟨hd0, rfl⟩
    · cases hR with
      | sb _ b n c arr fr _ _ h1 h2 h3 h4 h5 h6 h7 h8 h9 =>
        subst h6
        exact .inr ⟨b, c, arr, fr, rfl, h1, h2, (fun e => by cases e), h3, h4, h5, h8, h9⟩
    · rcases hd0 with rfl | rfl
      · cases hR; exact .inl ⟨rfl, rfl, rfl⟩
      · cases hR with
        | onil => exact .inl ⟨rfl, rfl, rfl⟩
        | own _ _ b n c arr _ _ Ss h1 h2 h3 h4 h5 h6 h7 h8 h9 h10 h11 =>
          subst h5
          refine .inr ⟨b, c, arr, (0, 0), rfl, h1, .inr rfl, fun _ => rfl, h2, h3, by rw [h4, hel']; simp [SD.sz], h7, fun j p hp => ?_⟩
          have := h11 j p hp
          rw [hel'] at this
          generalize hc : elemAt arr.toList (SD.int .u8).sz j = cs at this
          cases this
          rename_i x
          refine ⟨x, rfl, ?_⟩
          unfold elemAt at hc
          simp only [SD.sz, Nat.mul_one] at hc
          have h0 : ((arr.toList.drop j).take 1)[0]? = some (.int .u8 x) := by rw [hc]; rfl
          rw [List.getElem?_take, if_pos (by omega), List.getElem?_drop, Nat.add_zero, Array.getElem?_toList] at h0
          exact h0
  have hbl := byteV_len s
  rcases hv with ⟨rfl, rfl, hdo⟩ | ⟨b, cap, arr, fr, rfl, h1, h2, h3, h4, h5, h6, h7, h8⟩
  · by_cases h0 : s.size = 0
    · have hnil : s.data.toList = [] := List.eq_nil_of_length_eq_zero (by omega)
      refine ⟨.slice none 0 0, w, T, ?_, ?_, fun b hb => .inl hb, rfl, rfl, rfl, Nat.le_refl _, fun _ _ _ => rfl⟩
      · have h0' := run_firstCells_str P w 1 s
        rw [h0] at h0'
        simp [Builtin.append_, run_underlying ht, run_underlying hu, sizeOf, typeInfo, hi, hsize, Builtin.lenOf, h0, h0']
      · rw [hnil, hdo]
        exact .onil ..
    · have hr := run_append_nil_string (P := P) w t u ty e i z ht hu hi hz s (by omega) (by omega) (by simp at hfit; omega)
      have hge := grownCap_ge w s.size 0 e
      have hcm := grownCap_le_maxLen w s.size 0 e (by simp at hmax; simp only [maxLen]; omega)
      refine ⟨_, _, (fun b => b = w.heap.size), hr, ?_, fun b hb => .inr ?_, rfl, rfl, rfl, by simp, fun b hb _ => heap_alloc_old w.drew _ b hb⟩
      rotate_left
      · rw [show b = w.heap.size from hb]; exact ⟨Nat.le_refl _, by simp⟩
      have := fin w.heap.size (grownCap w s.size 0 e) (s.data.map (fun b => Value.int .u8 b.toNat) ++ Builtin.zeroCells z.cells (grownCap w s.size 0 e - s.size)) (0, 0) (w.drew.alloc (.cells (s.data.map (fun b => Value.int .u8 b.toNat) ++ Builtin.zeroCells z.cells (grownCap w s.size 0 e - s.size)) e))
        (heap_alloc_new w.drew _) (.inr rfl) (fun _ => rfl) (by simpa using hge) hcm (by
          simp only [Array.size_append, Array.size_map, size_zeroCells, hzs, Nat.mul_one]
          have : s.data.size = s.size := rfl
          omega) (BIs.app (xs := []) (tl := (Builtin.zeroCells z.cells (grownCap w s.size 0 e - s.size)).toList) rfl (fun j p hp => by simp at hp) (by simp))
      simpa using this
  · have hal : arr.toList.length = cap := by rw [Array.length_toList]; exact h6
    have hxs : (arr.toList.take ps.length).length = ps.length := by rw [List.length_take]; omega
    have hel0 : ∀ (j : Nat) (p : PV), ps[j]? = some p → ∃ x, p = .int x ∧ (arr.toList.take ps.length)[j]? = some (.int .u8 x) := fun j p hp => by
      obtain ⟨x, e1, e2⟩ := h8 j p hp
      have hj := (List.getElem?_eq_some_iff.1 hp).1
      exact ⟨x, e1, by rw [List.getElem?_take, if_pos hj, Array.getElem?_toList]; exact e2⟩
    by_cases hroom : ps.length + s.size ≤ cap
    · have hst := run_storeCells_fr P b ps.length e fr (byteV s) 0 arr w h1 h2 (by rw [hbl]; omega) (by intro x hx; obtain ⟨y, _, rfl⟩ := List.mem_map.1 hx; rfl)
      simp only [Nat.add_zero] at hst
      have hstl : (s.data.map fun b => Value.int .u8 b.toNat).toList = byteV s := by simp
      have hr : (Builtin.append_ #[t, u] ty #[.slice (some ⟨b, 0, none⟩) ps.length cap, .string s]).run P w = .ok (.slice (some ⟨b, 0, none⟩) (ps.length + s.size) cap) (w.setRow b (arr.toList.take ps.length ++ byteV s ++ arr.toList.drop (ps.length + (byteV s).length)).toArray) := by
        simp [Builtin.append_, run_underlying ht, run_underlying hu, sizeOf, typeInfo, hi, hsize, Builtin.lenOf, hroom, run_firstCells_str, Addr.add_lit, hst]
      refine ⟨_, _, _, hr, fin b cap _ fr _ (setRow_heap w b arr _ e _ h1) ?_ h3 hroom h5 ?_ (BIs.app hxs hel0 (by rw [List.toList_toArray])), fun b' hb' => ?_, rfl, rfl, rfl, by simp, fun b' _ hb' => setRow_other w b b' _ (fun e => hb' (e ▸ h7))⟩
      · rcases h2 with h2 | h2
        · left
          simp only [List.size_toArray, List.length_append, List.length_take, List.length_drop, hbl, hal]
          omega
        · exact .inr h2
      · simp only [List.size_toArray, List.length_append, List.length_take, List.length_drop, hbl, hal]
        omega
      · rw [show b' = b from hb']; exact .inl h7
    · have holds : ∀ j u, (arr.toList.take ps.length)[j]? = some u → w.drew.cell? ((⟨b, 0, none⟩ : Addr).add j) = some u := by
        intro j u hu
        rw [List.getElem?_take] at hu
        split at hu
        · rw [add_zero_off]; exact cell_of_heap (w := w.drew) h1 (by simpa using hu)
        · cases hu
      have hfo := run_firstCells_some (P := P) w.drew i.size ps.length ⟨b, 0, none⟩ ps.length cap (arr.toList.take ps.length) (by rw [hsize]; omega) holds
      have h63' : ¬ (9223372036854775807 < ((ps.length : Int) + (s.size : Int))) := by omega
      have h48 := growslice_fits (old := cap) (need := ps.length + s.size) (by omega) hfit
      have h48' : ¬ (281474976710656 < Builtin.nextslicecap (ps.length + s.size) cap * i.bytes) := by omega
      have hge := grownCap_ge w (ps.length + s.size) cap e
      have hcm := grownCap_le_maxLen w (ps.length + s.size) cap e (by simp only [maxLen]; omega)
      have hr : (Builtin.append_ #[t, u] ty #[.slice (some ⟨b, 0, none⟩) ps.length cap, .string s]).run P w =
          .ok (.slice (some ⟨w.heap.size, 0, none⟩) (ps.length + s.size) (grownCap w (ps.length + s.size) cap e)) (w.drew.alloc (.cells ((arr.toList.take ps.length).toArray ++ (s.data.map fun b => Value.int .u8 b.toNat) ++ Builtin.zeroCells z.cells (grownCap w (ps.length + s.size) cap e - (ps.length + s.size))) e)) := by
        rw [hsize] at hfo
        simp [Builtin.append_, run_underlying ht, run_underlying hu, sizeOf, typeInfo, zeroValue, hi, hz, hsize, Builtin.lenOf, hroom, h63', h48', Question.forced, hfo, run_firstCells_str, newRow, grownCap]
      refine ⟨_, _, _, hr, fin w.heap.size _ _ (0, 0) _ (heap_alloc_new w.drew _) (.inr rfl) (fun _ => rfl) hge hcm ?_ (BIs.app (tl := (Builtin.zeroCells z.cells (grownCap w (ps.length + s.size) cap e - (ps.length + s.size))).toList) hxs hel0 (by simp)), fun b' hb' => .inr ?_, rfl, rfl, rfl, by simp, fun b' hb' _ => heap_alloc_old w.drew _ b' hb'⟩
      · simp only [Array.size_append, Array.size_map, List.size_toArray, size_zeroCells, hzs, Nat.mul_one, hxs]
        have : s.data.size = s.size := rfl
        omega
      · rw [show b' = w.heap.size from hb']; exact ⟨Nat.le_refl _, by simp⟩
end
end Go.Rsc
