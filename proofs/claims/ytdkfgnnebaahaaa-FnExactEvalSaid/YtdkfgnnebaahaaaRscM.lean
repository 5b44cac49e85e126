/- What is lent to be read. No conditions. -/
import Derived.Test.YtdkfgnnebaahaaaRscL
import Derived.Laws.BytesString
namespace Go.Rsc
open Go.RowKit
set_option linter.unusedVariables false
set_option linter.unusedSimpArgs false

def lentOf (S : Nat → Set) (ks : List Nat) : Set := fun b => ∃ o ∈ ks, S o b

section
variable {P : Program} {w w' : World} {F F' : Set} {Γ : Nat → D} {σ : Nat → PV} {val : Nat → Value} {loc : Nat → Nat} {S : Nat → Set} {C : Cx} {tmps : Array Value}
variable {d d' x y : SD} {cs c : List Value} {p : PV} {T T' : Set}

theorem ro_isAgg (d : SD) : d.ro.isAgg = d.isAgg := by cases d <;> rfl
theorem Fits.ro {v : Value} (h : Fits d v cs) : Fits d.ro v cs := by
  unfold Fits at h ⊢
  rw [ro_isAgg]
  exact h
theorem ro_plain : ∀ {d : SD}, d.plain = true → d.ro = d
  | .sc a b, h => by
    simp only [SD.plain, Bool.and_eq_true] at h
    simp only [SD.ro, ro_plain h.1, ro_plain h.2]
  | .own _ _, h | .mp _, h | .sb _, h => by simp [SD.plain] at h
  | .int _, _ | .bool, _ | .str, _ | .bor _, _ | .nl, _ | .mz, _ | .ifc, _ | .np, _ | .fp _, _ | .sn, _ | .dead _, _ => rfl

theorem lend_ok (h : RelX C Γ σ val loc S F tmps w) {x : Operand} {px : PX} (hx : lend C.P Γ x = some (d, px)) (rs : List PV) :
    ∃ cs, Fits d (evalOp tmps x) cs ∧ R C.P w (fun b => F b ∨ lentOf S (lendKeys Γ x) b) d cs (px.eval σ rs) Set.none := by
  unfold lend at hx
  split at hx
  · rename_i c
    obtain ⟨h1, h2⟩ := constOf_R (P := C.P) (w := w) (F := fun b => F b ∨ lentOf S (lendKeys Γ (.const c)) b) (σ := σ) (T := Set.none) hx rs
    exact ⟨_, h1, h2⟩
  · rename_i t
    have hev : evalOp tmps (.tmp t) = val (tk t) := (h.tm t).symm
    have hok := h.ok (tk t)
    rw [hev]
    cases hΓ : Γ (tk t) <;> simp only [hΓ, reduceCtorEq] at hx
    case v d0 =>
      rw [hΓ] at hok
      obtain ⟨cs, hf, hR⟩ := hok
      simp only [Option.some.injEq, Prod.mk.injEq] at hx
      obtain ⟨rfl, rfl⟩ := hx
      refine ⟨cs, hf.ro, ?_⟩
      by_cases hp : d0.plain = true
      · rw [ro_plain hp]
        exact (hR.ofPlain hp Set.none).imp (fun b hb => .inl hb) (fun b hb => hb) (fun _ _ => rfl)
      · exact hR.toRo (fun b hb => .inl hb) (fun b hb => .inr ⟨tk t, by simp [lendKeys, hΓ, hp], hb⟩)
    case view o π =>
      rw [hΓ] at hok
      obtain ⟨⟨d1, cs, base, x, c, ad, h1, h2, h3⟩, h4⟩ := hok
      rw [h2.shape h1] at hx
      simp only [Option.map_some, Option.some.injEq, Prod.mk.injEq] at hx
      obtain ⟨rfl, rfl⟩ := hx
      obtain ⟨T0, hR, hT0⟩ := h.subR h1 h2
      refine ⟨c, h3.ro, ?_⟩
      rw [getPX_eval]
      exact hR.toRo (fun b hb => .inl hb) (fun b hb => .inr ⟨o, by simp [lendKeys, hΓ], hT0 b hb⟩)
    case tr o π =>
      rw [hΓ] at hok
      obtain ⟨d1, cs, base, e, y, A, n, cap, m, h1, h2, h3, h4, h5, h6, h7⟩ := hok
      have hsh : shapeAt C.P Γ o ⟨π, none⟩ = some (.own e y) := by
        unfold shapeAt; rw [h1.sd]; exact h2
      rw [hsh] at hx
      simp only [Option.some.injEq, Prod.mk.injEq] at hx
      obtain ⟨rfl, rfl⟩ := hx
      obtain ⟨T0, hR, hT0⟩ := h.rootR h1
      obtain ⟨pre, c1, post, S1, ecs, hlen, hR1, hS1, _⟩ := R.focus π hR h2
      have : c1 = [.slice A n cap] := by rw [← h3, ecs, take_drop_mid (m := 1) hlen hR1.len]
      subst this
      obtain ⟨A', n', cap', ps, q1, q2, q3⟩ := R.ofSlice hR1 (.inr (.inl ⟨_, _, rfl⟩))
      refine ⟨_, .inr ⟨rfl, rfl⟩, ?_⟩
      rw [q2] at hR1
      rw [h7]
      have := (hR1.trunc (k := m.toNat) (by omega)).toRo (F' := fun b => F b ∨ lentOf S (lendKeys Γ (.tmp t)) b) (fun b hb => .inl hb) (fun b hb => .inr ⟨o, by simp [lendKeys, hΓ], (hT0 b (hS1 b hb)).1⟩)
      simpa only [PX.eval, q2, h4, PV.toInt, PV.toList, SD.ro] using this
    case sl o π =>
      rw [hΓ] at hok
      obtain ⟨d1, cs, base, e, y, A, n, cap, lo, hi, h1, h2, h3, h4, h5, h6, h7, h8⟩ := hok
      have hsh : shapeAt C.P Γ o ⟨π, none⟩ = some (.own e y) := by
        unfold shapeAt; rw [h1.sd]; exact h2
      rw [hsh] at hx
      simp only [Option.some.injEq, Prod.mk.injEq] at hx
      obtain ⟨rfl, rfl⟩ := hx
      obtain ⟨T0, hR, hT0⟩ := h.rootR h1
      obtain ⟨pre, c1, post, S1, ecs, hlen, hR1, hS1, _⟩ := R.focus π hR h2
      have : c1 = [.slice A n cap] := by rw [← h3, ecs, take_drop_mid (m := 1) hlen hR1.len]
      subst this
      obtain ⟨A', n', cap', ps, q1, q2, q3⟩ := R.ofSlice hR1 (.inr (.inl ⟨_, _, rfl⟩))
      refine ⟨_, .inr ⟨rfl, rfl⟩, ?_⟩
      rw [q2] at hR1
      rw [h8]
      have h9 := hR1.toRo (F' := fun b => F b ∨ lentOf S (lendKeys Γ (.tmp t)) b) (fun b hb => .inl hb) (fun b hb => .inr ⟨o, by simp [lendKeys, hΓ], (hT0 b (hS1 b hb)).1⟩)
      have hsz : (sdOf C.P e).sz = (el C.P y e).sz := by
        have : (el C.P y e).ro = sdOf C.P e := sdT_ro C.P y 8 e
        rw [← this, SD.ro_sz]
      have h10 := R.borPart (l := lo.toNat) (u := hi.toNat) h9 (by omega) (by omega) Set.none
      rw [hsz] at h10
      simpa only [PX.eval, q2, h4, PV.toInt, PV.toList, PV.get, PV.fld, PV.toAgg, List.getD_cons_zero, List.getD_cons_succ] using h10
  · cases hx

/-- Bytes that are read. -/
theorem R.bytes {e : TypeId} {A : Option Addr} {n cap : Nat} {ps : List PV} (he : P.underlying e = some (.int .u8)) (h : R P w F (.bor e) [.slice A n cap] (.list ps) T) (src dst : TypeId) (hs : P.underlying src = some (.slice e)) (hd : P.underlying dst = some .string) :
    (convert src dst (.slice A n cap)).run P w = .ok (.string ⟨(ps.map fun p => UInt8.ofNat p.toInt.toNat).toArray⟩) w := by
  cases h with
  | bor _ _ _ _ _ _ css g1 g2 g3 g4 g5 =>
    have hel : sdOf P e = .int .u8 := by simp [sdOf, sdT, he]
    rw [run_convert_bytes_string w src dst e A n cap hs he hd]
    have key : ∀ j, j < n → ∃ m, css j = [.int .u8 m] ∧ ps[j]? = some (.int m) := by
      intro j hj
      have h5 := g5 j _ (getD_some (by omega) .unit)
      rw [hel] at h5
      have := getD_some (l := ps) (j := j) (by omega) .unit
      generalize ps.getD j .unit = q at h5 this
      generalize css j = cj at h5
      cases h5
      exact ⟨_, rfl, this⟩
    have hsz : (sdOf P e).sz = 1 := by rw [hel]; rfl
    cases n with
    | zero =>
      have : ps = [] := List.eq_nil_of_length_eq_zero g1
      subst this
      cases A with
      | none => simp [Conv.bytesToString]; rfl
      | some ad =>
        refine (run_bytesToString w ad 0 cap [] ?_).trans ?_
        · exact run_loadCells_list (P := P) w ad [] (by simp)
        · simp; rfl
    | succ n =>
      obtain ⟨m0, e0, _⟩ := key 0 (by omega)
      obtain ⟨ad, rfl, _⟩ := g4 0 (by omega) 0 (.int .u8 m0) (by rw [e0]; rfl)
      have hl : ps = (ps.map fun p => PV.int p.toInt) := by
        apply List.ext_getElem?
        intro j
        rw [List.getElem?_map]
        by_cases hj : j < n + 1
        · obtain ⟨m, _, e2⟩ := key j hj
          rw [e2]; rfl
        · rw [List.getElem?_eq_none (by omega)]; rfl
      have hload : (loadCells ad (n + 1)).run P w = .ok ((ps.map fun p => p.toInt).map (Value.int .u8)).toArray w := by
        have := run_loadCells_list (P := P) w ad ((ps.map fun p => p.toInt).map (Value.int .u8)) (fun i u hu => by
          have hi : i < n + 1 := by
            have := (List.getElem?_eq_some_iff.1 hu).1
            simpa [g1] using this
          obtain ⟨m, e1, e2⟩ := key i hi
          simp only [List.getElem?_map, e2, Option.map_some, Option.some.injEq, PV.toInt] at hu
          subst hu
          obtain ⟨ad', e3, _, e4⟩ := g4 i hi 0 (.int .u8 m) (by rw [e1]; rfl)
          simp only [Option.some.injEq] at e3
          subst e3
          simpa [hsz] using e4)
        simpa [g1] using this
      refine (run_bytesToString w ad (n + 1) cap _ hload).trans ?_
      congr 2
      have : ∀ (l : List Int) (s : ByteArray), l.foldl (fun r n => r.push (UInt8.ofNat n.toNat)) s = ⟨s.data ++ (l.map fun n => UInt8.ofNat n.toNat).toArray⟩ := by
        intro l
        induction l with
        | nil => intro s; simp
        | cons x l ih => intro s; rw [List.foldl_cons, ih]; simp [ByteArray.push]
      rw [this]
      simp [List.map_map]

section
variable {a : Act} {o : Oper} {K : Act → World → Prop} {Q : Exit → Act → World → Prop} {dst : Nat} {v : Value} {I : Interp} {σ' : Nat → PV} {r : SR}

theorem cConvert_ok {s t : TypeId} {ax : Operand} (h : RelX C Γ σ val loc S F a.tmps w) (ht : dst < C.nt) (hdst : o.dst = some dst) (hop : o.op = .convert s t ax)
    (hc : cConvert C.P Γ dst s t ax = some r) (hrun : r.run I σ = some σ') (hK : Cont C (apS Γ r) σ' a K) : o.wp C.P a w K Q := by
  have hex : ∀ {v : Value}, (convert s t (evalOp a.tmps ax)).run C.P w = .ok v w → (execOp a.eval o).run C.P w = .ok (.value v) w := fun {v} e2 => by
    simp [execOp, hop, evalOp_eq, e2]
  unfold cConvert at hc
  split at hc
  · rename_i k0 k hs hd
    obtain ⟨⟨k1, px⟩, hi, rfl⟩ := Option.map_eq_some_iff.1 hc
    obtain ⟨n, e1, e2⟩ := intOf_ok h hi []
    rw [mk1_run0 hrun] at hK
    refine wp_plain (v := .int k (k.wrap n)) h ht hdst (hex ?_) (by simp only [PX.eval, e2, PV.toInt]; exact Fits.int ..) hK
    rw [e1]
    simp [convert, run_underlying hs, run_underlying hd, Conv.intToInt]
  · rename_i hs hd
    split at hc
    · rename_i px hx
      simp only [Option.some.injEq] at hc
      subst hc
      obtain ⟨_, cx⟩ := plainOf_ok h hx []
      obtain ⟨s', ex, ex'⟩ := R.eqStr cx
      rw [mk1_run0 hrun] at hK
      refine wp_plain (v := .string s') h ht hdst (hex ?_) (by rw [ex']; exact Fits.str ..) hK
      rw [ex]
      simp [convert, run_underlying hs, run_underlying hd]
    · cases hc
  · rename_i e hs hd
    split at hc
    · rename_i e' px hu hx
      split at hc
      · rename_i hee
        have hee := beq_iff.1 hee
        subst hee
        simp only [Option.some.injEq] at hc
        subst hc
        rw [mk1_run0 hrun] at hK
        obtain ⟨cs, hf, hR⟩ := lend_ok h hx []
        have hcs := hf.single rfl
        subst hcs
        obtain ⟨A, n, cap, ps, q1, q2, q3⟩ := R.ofSlice hR (.inl ⟨_, rfl⟩)
        rw [q1, q2] at hR
        refine wp_plain h ht hdst (hex (by rw [q1]; exact R.bytes hu hR s t hs hd)) ?_ hK
        simp only [PX.eval, q2, PV.toList]
        exact Fits.str _
      · cases hc
    · rename_i px hu hx
      simp only [Option.some.injEq] at hc
      subst hc
      rw [mk1_run0 hrun] at hK
      obtain ⟨cs, hf, hR⟩ := lend_ok h hx []
      have hcs := hf.single rfl
      subst hcs
      generalize hp : px.eval σ [] = pq at hR
      generalize hv : evalOp a.tmps ax = vv at hR
      cases hR
      refine wp_plain (v := .string .empty) h ht hdst (hex ?_) ?_ hK
      · rw [hv, run_convert_bytes_string w s t e none 0 0 hs hu hd]
        simp [Conv.bytesToString]
      · simp only [PX.eval, hp, PV.toList]
        exact Fits.str _
    · cases hc
  · cases hc
end
end
end Go.Rsc
