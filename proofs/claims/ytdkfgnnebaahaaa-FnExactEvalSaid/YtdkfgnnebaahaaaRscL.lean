/- Lengths; parts of rows and strings. No conditions. -/
import Derived.Test.YtdkfgnnebaahaaaRscK
import Derived.Laws.Slices
namespace Go.Rsc
open Go.RowKit
set_option linter.unusedVariables false
set_option linter.unusedSimpArgs false

section
variable {P : Program} {w w' : World} {F F' : Set} {Γ : Nat → D} {σ : Nat → PV} {val : Nat → Value} {loc : Nat → Nat} {S : Nat → Set} {C : Cx} {tmps : Array Value}
variable {d d' x y : SD} {cs c : List Value} {p : PV} {T T' : Set}

theorem R.ofSlice {v : Value} (hR : R P w F d [v] p T) (hd : (∃ e, d = .bor e) ∨ (∃ e m, d = .own e m) ∨ d = .nl) : ∃ A n cap ps, v = .slice A n cap ∧ p = .list ps ∧ ps.length = n := by
  rcases hd with ⟨e, rfl⟩ | ⟨e, m, rfl⟩ | rfl
  · cases hR with
    | bor _ A n cap ps _ css g1 => exact ⟨A, n, cap, ps, rfl, rfl, g1⟩
  · cases hR with
    | onil => exact ⟨_, _, _, _, rfl, rfl, rfl⟩
    | own _ _ b n c arr ps _ Ss h1 h2 h3 h4 h5 => exact ⟨_, _, _, _, rfl, rfl, h5⟩
  · cases hR with
    | nl => exact ⟨_, _, _, _, rfl, rfl, rfl⟩

theorem lenPX_ok (h : RelX C Γ σ val loc S F tmps w) {x : Operand} {px : PX} (hx : lenPX C.P Γ x false = some px) : ∃ A n cap, evalOp tmps x = .slice A n cap ∧ px.eval σ [] = .int n := by
  unfold lenPX at hx
  simp only at hx
  split at hx
  · simp only [Option.some.injEq] at hx; subst hx; exact ⟨none, 0, 0, rfl, rfl⟩
  · rename_i q
    have hev : evalOp tmps (.tmp q) = val (tk q) := (h.tm q).symm
    rw [hev]
    have hok := h.ok (tk q)
    have one : ∀ {d : SD}, Ok C.P w F Γ σ val loc S (tk q) (.v d) → ((∃ e, d = .bor e) ∨ (∃ e m, d = .own e m) ∨ d = .nl) → ∃ A n cap, val (tk q) = .slice A n cap ∧ (PX.len (.k (tk q))).eval σ [] = .int n := by
      intro d hok hd
      obtain ⟨cs, hf, hR⟩ := hok
      have hcs := hf.single (by rcases hd with ⟨e, rfl⟩ | ⟨e, m, rfl⟩ | rfl <;> rfl)
      subst hcs
      obtain ⟨A, n, cap, ps, e1, e2, e3⟩ := R.ofSlice hR hd
      exact ⟨A, n, cap, e1, by simp [PX.eval, e2, PV.toList, e3]⟩
    split at hx
    · rename_i hΓ; rw [hΓ] at hok; simp only [Option.some.injEq] at hx; subst hx; exact one hok (.inl ⟨_, rfl⟩)
    · rename_i hΓ; rw [hΓ] at hok; simp only [Option.some.injEq] at hx; subst hx; exact one hok (.inr (.inl ⟨_, _, rfl⟩))
    · rename_i hΓ; rw [hΓ] at hok; simp only [Option.some.injEq] at hx; subst hx; exact one hok (.inr (.inr rfl))
    · rename_i k π hΓ
      rw [hΓ] at hok
      obtain ⟨⟨d, cs, base, x, c, ad, h1, h2, h3⟩, h4⟩ := hok
      rw [h2.shape h1] at hx
      have : ((∃ e, x = .bor e) ∨ (∃ e m, x = .own e m) ∨ x = .nl) ∧ px = .len (getPX k π (.k (tk q))) := by
        cases x <;> simp only [reduceCtorEq, Option.some.injEq] at hx
        · exact ⟨.inl ⟨_, rfl⟩, hx.symm⟩
        · exact ⟨.inr (.inr rfl), hx.symm⟩
        · exact ⟨.inr (.inl ⟨_, _, rfl⟩), hx.symm⟩
      obtain ⟨hd, rfl⟩ := this
      obtain ⟨T0, hR, hT0⟩ := h.subR h1 h2
      have hcs := h3.single (by rcases hd with ⟨e, rfl⟩ | ⟨e, m, rfl⟩ | rfl <;> rfl)
      subst hcs
      obtain ⟨A, n, cap, ps, e1, e2, e3⟩ := R.ofSlice hR hd
      refine ⟨A, n, cap, e1, ?_⟩
      simp only [PX.eval, getPX_eval, e2, PV.toList, e3]
    · rename_i k π hΓ
      rw [hΓ] at hok
      simp only [Option.some.injEq] at hx
      subst hx
      obtain ⟨d, cs, base, e, y, A, n, cap, m, h1, h2, h3, h4, h5, h6, h7⟩ := hok
      exact ⟨A, m.toNat, cap, h7, by simp only [PX.eval, h4, Int.toNat_of_nonneg h5]⟩
    · rename_i k π hΓ
      rw [hΓ] at hok
      simp only [Option.some.injEq] at hx
      subst hx
      obtain ⟨d, cs, base, e, y, A, n, cap, lo, hi, h1, h2, h3, h4, h5, h6, h7, h8⟩ := hok
      refine ⟨_, _, _, h8, ?_⟩
      simp only [PX.eval, h4, PV.get, PV.fld, PV.toAgg, PV.toInt, List.getD_cons_succ, List.getD_cons_zero]
      congr 1
      omega
    · cases hx
  · cases hx

theorem info_of_cells {e : TypeId} (h0 : P.cellsOf e ≠ 0) : ∃ i, P.info? e = some i := by
  cases hi : P.info? e with
  | some i => exact ⟨i, rfl⟩
  | none => exact absurd (by simp [Program.cellsOf, hi]) h0

/-- A bound: none, or a number. -/
def Bnd (v : Option Value) (i z : Int) : Prop := (v = none ∧ i = z) ∨ ∃ k, v = some (.int k i)
theorem boundOf_ok (h : RelX C Γ σ val loc S F tmps w) {x : Option Operand} {z px : PX} {n : Int} (hz : z.eval σ [] = .int n) (hx : boundOf Γ x z = some px) : ∃ i, Bnd (x.map (evalOp tmps)) i n ∧ px.eval σ [] = .int i := by
  cases x with
  | none =>
    simp only [boundOf, Option.some.injEq] at hx
    subst hx
    exact ⟨n, .inl ⟨rfl, rfl⟩, hz⟩
  | some y =>
    simp only [boundOf] at hx
    obtain ⟨⟨k, px'⟩, hi, rfl⟩ := Option.map_eq_some_iff.1 hx
    obtain ⟨i, e1, e2⟩ := intOf_ok h hi []
    exact ⟨i, .inr ⟨k, by simp [e1]⟩, e2⟩

theorem run_sliceBounds {lo hi : Option Value} {l u : Int} {n cap : Nat} {isS : Bool} (hl : Bnd lo l 0) (hh : Bnd hi u n) (h0 : 0 ≤ l) (h1 : l ≤ u) (h2 : u ≤ n) (h3 : n ≤ cap) :
    (Instr.sliceBounds isS n cap lo hi none).run P w = .ok (l.toNat, u.toNat, cap) w := by
  have hu : (u.toNat : Int) = u := Int.toNat_of_nonneg (by omega)
  have hc : u ≤ (cap : Int) := by omega
  have hu0 : 0 ≤ u := by omega
  rcases hl with ⟨rfl, rfl⟩ | ⟨k, rfl⟩ <;> rcases hh with ⟨rfl, rfl⟩ | ⟨k', rfl⟩
  · simp [Instr.sliceBounds]
  · simp [Instr.sliceBounds, run_sliceBound, h0, h1, hc, hu0]
  · simp [Instr.sliceBounds, run_sliceBound, h0, h1]
  · simp [Instr.sliceBounds, run_sliceBound, h0, h1, hc, hu0, hu]

theorem run_sliceAt_row {t e : TypeId} {A : Option Addr} {lo hi : Option Value} {l u : Int} {n cap : Nat} (hu : P.underlying t = some (.slice e)) (he : ∃ i, P.info? e = some i) (hl : Bnd lo l 0) (hh : Bnd hi u n) (h0 : 0 ≤ l) (h1 : l ≤ u) (h2 : u ≤ n) (h3 : n ≤ cap) :
    (Instr.sliceAt t (.slice A n cap) lo hi none).run P w = .ok (.slice (if cap = l.toNat then A else A.map (·.add (l.toNat * P.cellsOf e))) (u.toNat - l.toNat) (cap - l.toNat)) w := by
  simp [Instr.sliceAt, Instr.slice, run_underlying hu, run_sliceBounds hl hh h0 h1 h2 h3, run_sizeOf'' he]
theorem run_sliceAt_str {t : TypeId} {s : ByteArray} {lo hi : Option Value} {l u : Int} (hu : P.underlying t = some .string) (hl : Bnd lo l 0) (hh : Bnd hi u s.size) (h0 : 0 ≤ l) (h1 : l ≤ u) (h2 : u ≤ s.size) :
    (Instr.sliceAt t (.string s) lo hi none).run P w = .ok (.string (s.extract l.toNat u.toNat)) w := by
  simp [Instr.sliceAt, Instr.slice, run_underlying hu, run_sliceBounds hl hh h0 h1 h2 (Nat.le_refl _)]

theorem add_zero' (a : Addr) : a.add 0 = a := rfl
theorem block_add (a : Addr) (n : Nat) : (a.add n).block = a.block := by unfold Addr.add; split <;> rfl

/-- A part of a row that is only read. -/
theorem R.borPart {e : TypeId} {A : Option Addr} {n cap : Nat} {ps : List PV} (h : R P w F (.bor e) [.slice A n cap] (.list ps) T) {l u : Nat} (h1 : l ≤ u) (h2 : u ≤ n) (T' : Set) :
    R P w F (.bor e) [.slice (if cap = l then A else A.map (·.add (l * (sdOf P e).sz))) (u - l) (cap - l)] (.list ((ps.drop l).take (u - l))) T' := by
  cases h with
  | bor _ _ _ _ _ _ css g1 g2 g3 g4 g5 =>
    refine .bor e _ _ _ _ _ (fun j => css (j + l)) (by simp; omega) (by omega) (fun j hj => g3 _ (by omega)) (fun j hj i x hx => ?_) (fun j p hp => ?_)
    · obtain ⟨ad, rfl, hF, hcl⟩ := g4 (j + l) (by omega) i x hx
      rw [if_neg (by omega)]
      refine ⟨ad.add (l * (sdOf P e).sz), rfl, by rw [block_add]; exact hF, ?_⟩
      rw [add_two, ← hcl]
      congr 2
      rw [Nat.add_mul]
      omega
    · rw [List.getElem?_take] at hp
      split at hp
      · rw [List.getElem?_drop] at hp
        have := g5 (l + j) p hp
        rwa [Nat.add_comm l j] at this
      · cases hp

section
variable {a : Act} {o : Oper} {K : Act → World → Prop} {Q : Exit → Act → World → Prop} {dst : Nat} {v : Value} {I : Interp} {σ' : Nat → PV} {r : SR}

theorem cLen_ok {cl : Call} {ax : Operand} {px : PX} {b : Bool} (h : RelX C Γ σ val loc S F a.tmps w) (ht : dst < C.nt) (hdst : o.dst = some dst) (hop : o.op = .call cl) (hcl : cl.callee = .builtin .len) (has : cl.args.toList = [ax])
    (hty : cl.argTypes[0]?.bind (isStrTy C.P) = some b) (hc : lenPX C.P Γ ax b = some px) (hrun : (mk1 dst (.v (.int .i64)) px).run I σ = some σ') (hK : Cont C (apS Γ (mk1 dst (.v (.int .i64)) px)) σ' a K) : o.wp C.P a w K Q := by
  rw [mk1_run0 hrun] at hK
  have has' : cl.args = #[ax] := by
    apply Array.ext'
    exact has
  obtain ⟨t, ht0, hty⟩ := Option.bind_eq_some_iff.1 hty
  have key : ∃ n : Nat, (Builtin.len_ cl.argTypes o.type #[evalOp a.tmps ax]).run C.P w = .ok (.int .i64 n) w ∧ px.eval σ [] = .int n := by
    unfold isStrTy at hty
    cases b with
    | true =>
      have hu : C.P.underlying t = some .string := by
        cases hu : C.P.underlying t with
        | none => simp [hu] at hty
        | some z => cases z <;> simp [hu] at hty; rfl
      simp only [lenPX] at hc
      split at hc
      · rename_i qx hx
        simp only [Option.some.injEq] at hc
        subst hc
        obtain ⟨_, cx⟩ := plainOf_ok h hx []
        obtain ⟨s, ex, ex'⟩ := R.eqStr cx
        refine ⟨s.size, ?_, by simp [PX.eval, ex', PV.toStr]⟩
        rw [ex]
        simp [Builtin.len_, ht0, run_underlying hu, goInt]
      · cases hc
    | false =>
      have hu : ∃ e, C.P.underlying t = some (.slice e) := by
        cases hu : C.P.underlying t with
        | none => simp [hu] at hty
        | some z => cases z <;> simp [hu] at hty; exact ⟨_, rfl⟩
      obtain ⟨e, hu⟩ := hu
      obtain ⟨A, n, cap, e1, e2⟩ := lenPX_ok h hc
      refine ⟨n, ?_, e2⟩
      rw [e1]
      simp [Builtin.len_, ht0, run_underlying hu, goInt]
  obtain ⟨n, e1, e2⟩ := key
  refine wp_plain (v := .int .i64 n) h ht hdst ?_ (by rw [e2]; exact Fits.int ..) hK
  simp [execOp, hop, resolve, hcl, has', evalOp_eq, invoke, builtin, e1]

theorem cMin_ok {cl : Call} {ax ay : Operand} (h : RelX C Γ σ val loc S F a.tmps w) (ht : dst < C.nt) (hdst : o.dst = some dst) (hop : o.op = .call cl) (hcl : cl.callee = .builtin .min) (has : cl.args.toList = [ax, ay])
    (hc : cMin Γ dst ax ay = some r) (hrun : r.run I σ = some σ') (hK : Cont C (apS Γ r) σ' a K) : o.wp C.P a w K Q := by
  have has' : cl.args = #[ax, ay] := by
    apply Array.ext'
    exact has
  unfold cMin at hc
  split at hc
  · rename_i k pa k' pb hx hy
    simp only [Option.some.injEq] at hc
    subst hc
    rw [mk1_run0 hrun] at hK
    obtain ⟨n, e1, e1'⟩ := intOf_ok h hx []
    obtain ⟨m, e2, e2'⟩ := intOf_ok h hy []
    have ev : (PX.ite (.cmp .lss pb pa) pb pa).eval σ [] = .int (if m < n then m else n) := by
      simp only [PX.eval, e1', e2', PV.toInt, PV.toBool, cmpI, ltI]
      by_cases hm : m < n <;> simp [hm]
    refine wp_plain (v := .int k (if m < n then m else n)) h ht hdst ?_ (by rw [ev]; exact Fits.int ..) hK
    have e3 : ∀ ty, (Builtin.min_ cl.argTypes ty #[evalOp a.tmps ax, evalOp a.tmps ay]).run C.P w = .ok (.int k (if m < n then m else n)) w := fun ty => by
      rw [e1, e2]
      simp [Builtin.min_, Builtin.min2]
    simp [execOp, hop, resolve, hcl, has', evalOp_eq, invoke, builtin, e3]
  · cases hc

theorem cSlice_ok {t : TypeId} {ax : Operand} {lo hi mx : Option Operand} (h : RelX C Γ σ val loc S F a.tmps w) (ht : dst < C.nt) (hdst : o.dst = some dst) (hop : o.op = .slice t ax lo hi mx)
    (hc : cSlice C.P Γ dst t ax lo hi mx = some r) (hrun : r.run I σ = some σ') (hK : Cont C (apS Γ r) σ' a K) : o.wp C.P a w K Q := by
  unfold cSlice at hc
  split at hc
  · cases hc
  · rename_i hmx
    have hmx : mx = none := by cases mx <;> simp at hmx ⊢
    subst hmx
    have hex : ∀ {v : Value}, (Instr.sliceAt t (evalOp a.tmps ax) (lo.map (evalOp a.tmps)) (hi.map (evalOp a.tmps)) none).run C.P w = .ok v w → (execOp a.eval o).run C.P w = .ok (.value v) w := fun {v} e2 => by
      have e3 : (fun x => a.eval x) = evalOp a.tmps := funext fun x => evalOp_eq a x
      simp only [execOp, hop, Option.map_none]
      change (do pure (Next.value (← Instr.sliceAt t (a.eval ax) (lo.map (fun x => a.eval x)) (hi.map (fun x => a.eval x)) none)) : Sem Next).run C.P w = _
      rw [e3, evalOp_eq]
      simp [e2]
    split at hc
    · cases hc
    · rename_i n hn
      obtain ⟨b, hty, hn⟩ := Option.bind_eq_some_iff.1 hn
      split at hc
      · rename_i l u hl hh
        have chkOf : ∀ {m : Nat}, n.eval σ [] = .int m → (within l u n).all (fun c => (c.eval σ []).toBool) = true → ∃ i j, l.eval σ [] = .int i ∧ u.eval σ [] = .int j ∧ Bnd (lo.map (evalOp a.tmps)) i 0 ∧ Bnd (hi.map (evalOp a.tmps)) j m ∧ 0 ≤ i ∧ i ≤ j ∧ j ≤ m := by
          intro m hm hchk
          obtain ⟨i, b1, e1⟩ := boundOf_ok h (z := .int 0) rfl hl
          obtain ⟨j, b2, e2⟩ := boundOf_ok h hm hh
          simp only [within, List.all_cons, List.all_nil, Bool.and_true, Bool.and_eq_true, PX.eval, hm, e1, e2, PV.toInt, PV.toBool, cmpI, ltI, leI, gtI, geI, eqI, neI, decide_eq_true_eq] at hchk
          exact ⟨i, j, e1, e2, b1, b2, hchk.1, hchk.2.1, hchk.2.2⟩
        split at hc
        · rename_i px hx
          split at hc
          · rename_i hu
            simp only [Option.some.injEq] at hc
            subst hc
            obtain ⟨hchk, rfl⟩ := mk1_run hrun
            obtain ⟨_, cx⟩ := plainOf_ok h hx []
            obtain ⟨s, ex, ex'⟩ := R.eqStr cx
            have hb : b = true := by simp only [isStrTy, hu, Option.some.injEq] at hty; exact hty.symm
            subst hb
            have hm : n.eval σ [] = .int s.size := by
              simp only [lenPX, hx, Option.some.injEq] at hn
              subst hn
              simp [PX.eval, ex', PV.toStr]
            obtain ⟨i, j, e1, e2, b1, b2, h0, h1, h2⟩ := chkOf hm hchk
            refine wp_plain (v := .string (s.extract i.toNat j.toNat)) h ht hdst (hex (by rw [ex]; exact run_sliceAt_str hu b1 b2 h0 h1 h2)) ?_ hK
            simp only [PX.eval, e1, e2, ex', PV.toInt, PV.toStr]
            exact Fits.str _
          · cases hc
        · rename_i e px hx
          split at hc
          · rename_i e' hu
            split at hc
            · rename_i hcond
              simp only [Bool.and_eq_true, Bool.not_eq_true', beq_iff, beq_false] at hcond
              obtain ⟨⟨rfl, hcell⟩, hnz⟩ := hcond
              simp only [Option.some.injEq] at hc
              subst hc
              obtain ⟨hchk, rfl⟩ := mk1_run hrun
              have hb : b = false := by simp only [isStrTy, hu, Option.some.injEq] at hty; exact hty.symm
              subst hb
              obtain ⟨A, m, cap, e1, e2⟩ := lenPX_ok h hn
              obtain ⟨_, cs, hf, hR⟩ := plainOf_ok h hx []
              have hcs := hf.single rfl
              rw [e1] at hcs
              subst hcs
              obtain ⟨i, j, e3, e4, b1, b2, h0, h1, h2⟩ := chkOf e2 hchk
              obtain ⟨A', m', cap', ps, q1, q2, q3⟩ := R.ofSlice hR (.inl ⟨_, rfl⟩)
              simp only [Value.slice.injEq] at q1
              obtain ⟨rfl, rfl, rfl⟩ := q1
              rw [q2] at hR
              have hcap : m ≤ cap := by cases hR; assumption
              refine wp_plain h ht hdst (hex (by rw [e1]; exact run_sliceAt_row hu (el_und (m := false) hcell hnz) b1 b2 h0 h1 h2 hcap)) ⟨_, .inr ⟨rfl, rfl⟩, ?_⟩ hK
              simp only [PX.eval, e3, e4, q2, PV.toInt, PV.toList]
              rw [hcell]
              exact hR.borPart (by omega) (by omega) _
            · cases hc
          · cases hc
        · rename_i px hx
          split at hc
          · rename_i e hu
            split at hc
            · rename_i hnz
              simp only [Bool.not_eq_true', beq_false] at hnz
              simp only [Option.some.injEq] at hc
              subst hc
              obtain ⟨hchk, rfl⟩ := mk1_run hrun
              have hb : b = false := by simp only [isStrTy, hu, Option.some.injEq] at hty; exact hty.symm
              subst hb
              obtain ⟨A, m, cap, e1, e2⟩ := lenPX_ok h hn
              obtain ⟨_, cs, hf, hR⟩ := plainOf_ok h hx []
              have hcs := hf.single rfl
              rw [e1] at hcs
              subst hcs
              obtain ⟨i, j, e3, e4, b1, b2, h0, h1, h2⟩ := chkOf e2 hchk
              have : A = none ∧ m = 0 ∧ cap = 0 := by
                generalize PX.eval σ [] px = pq at hR
                cases hR; exact ⟨rfl, rfl, rfl⟩
              obtain ⟨rfl, rfl, rfl⟩ := this
              have hi : i = 0 := by omega
              have hj : j = 0 := by omega
              subst hi
              subst hj
              have hr := run_sliceAt_row (P := C.P) (w := w) (A := none) (cap := 0) hu (info_of_cells hnz) b1 b2 h0 h1 h2 (Nat.le_refl _)
              refine wp_plain (v := .slice none 0 0) h ht hdst (hex (by rw [e1]; exact hr)) ⟨_, .inr ⟨rfl, rfl⟩, .nl _⟩ hK
            · cases hc
          · cases hc
        · rename_i hx1 hx2 hx3
          split at hc
          · rename_i q _
            have hev : evalOp a.tmps (.tmp q) = val (tk q) := (h.tm q).symm
            rw [hev] at hex
            have hok := h.ok (tk q)
            have key : ∀ (k : Nat) (π : List Nat) (d : SD) (cs : List Value) (base : Option Nat) (e : TypeId) (m : Bool), Root w Γ val loc S k d cs base → d.get π = some (.own e m) → (cs.drop (d.off π)).take 1 = [val (tk q)] →
                (if Nat.beq k (tk dst) then none else match shapeAt C.P Γ k ⟨π, none⟩, C.P.underlying t with
                  | some (.own e m), some (.slice e') => if !Nat.beq e e' || !Nat.beq (C.P.cellsOf e) (el C.P m e).sz || Nat.beq (C.P.cellsOf e) 0 then none else match lo with
                    | none => some { mk1 dst (.tr k π) u with chk := within l u n }
                    | some _ => some { mk1 dst (.sl k π) (.acons l (.acons u .anil)) with chk := within l u n }
                  | _, _ => none) = some r → o.wp C.P a w K Q := by
              intro k π d cs base e m hroot hget hcs hc
              have hsh : shapeAt C.P Γ k ⟨π, none⟩ = some (.own e m) := by
                unfold shapeAt
                rw [hroot.sd]
                exact hget
              split at hc
              · cases hc
              · rename_i hne
                have hne : k ≠ tk dst := fun e => hne (beq_iff.2 e)
                rw [hsh] at hc
                split at hc
                · rename_i e0 m0 e' heq hu
                  simp only [Option.some.injEq, SD.own.injEq] at heq
                  obtain ⟨rfl, rfl⟩ := heq
                  split at hc
                  · cases hc
                  · rename_i hcond
                    simp only [Bool.or_eq_true, Bool.not_eq_true', not_or, Bool.not_eq_false, Bool.not_eq_true, beq_iff, beq_false, ne_eq, Classical.not_not] at hcond
                    obtain ⟨⟨rfl, hcell⟩, hnz⟩ := hcond
                    have hb : b = false := by simp only [isStrTy, hu, Option.some.injEq] at hty; exact hty.symm
                    subst hb
                    obtain ⟨A, len, cap, e1, e2⟩ := lenPX_ok h hn
                    rw [hev] at e1
                    rw [e1] at hcs hex
                    obtain ⟨T0, hR, hT0⟩ := h.rootR hroot
                    obtain ⟨pre, c1, post, S1, ecs, hlen, hR1, hS1, _⟩ := R.focus π hR hget
                    have : c1 = [.slice A len cap] := by
                      rw [← hcs, ecs, take_drop_mid (m := 1) hlen hR1.len]
                    subst this
                    have hcap : len ≤ cap := by
                      obtain ⟨ps, _, hv | ⟨b, cap', arr, hv, g1, g2, g3, _⟩⟩ := R.ofOwn hR1
                      · simp only [Value.slice.injEq] at hv; omega
                      · simp only [Value.slice.injEq] at hv; omega
                    have hr := fun {i j : Int} (b1 : Bnd (lo.map (evalOp a.tmps)) i 0) b2 h0 h1 h2 => hex (run_sliceAt_row (P := C.P) (w := w) (A := A) (n := len) (cap := cap) (lo := lo.map (evalOp a.tmps)) (hi := hi.map (evalOp a.tmps)) (l := i) (u := j) hu (el_und hcell hnz) b1 b2 h0 h1 h2 hcap)
                    split at hc
                    · simp only [Option.some.injEq] at hc
                      subst hc
                      obtain ⟨hchk, rfl⟩ := mk1_run hrun
                      obtain ⟨i, j, e3, e4, b1, b2, h0, h1, h2⟩ := chkOf e2 hchk
                      have hi0 : i = 0 := by
                        rcases b1 with ⟨_, h⟩ | ⟨_, h⟩
                        · exact h
                        · simp at h
                      subst hi0
                      have hr := hr b1 b2 h0 h1 h2
                      refine wp_set1 (x := .tr k π) (p := u.eval σ []) h ht hdst hr ⟨d, cs, base, e, m, A, len, cap, j, hroot.set1 hne _ _, hget, hcs, by rw [updF_same]; exact e4, h1, h2, ?_⟩ hK
                      rw [updF_same]
                      have e9 : (if cap = Int.toNat 0 then A else A.map (·.add (Int.toNat 0 * C.P.cellsOf e))) = A := by
                        cases A <;> simp [add_zero']
                      rw [e9]
                      rfl
                    · simp only [Option.some.injEq] at hc
                      subst hc
                      obtain ⟨hchk, rfl⟩ := mk1_run hrun
                      obtain ⟨i, j, e3, e4, b1, b2, h0, h1, h2⟩ := chkOf e2 hchk
                      have hr := hr b1 b2 h0 h1 h2
                      refine wp_set1 (x := .sl k π) (p := (PX.acons l (.acons u .anil)).eval σ []) h ht hdst hr ⟨d, cs, base, e, m, A, len, cap, i, j, hroot.set1 hne _ _, hget, hcs, by rw [updF_same]; simp only [PX.eval, e3, e4, PV.toAgg], h0, h1, h2, ?_⟩ hK
                      rw [updF_same, hcell]
                · cases hc
            cases hΓ : Γ (tk q) with
            | v d0 =>
              rw [hΓ] at hok hc
              cases d0 with
              | own e m =>
                obtain ⟨cs, hf, hR⟩ := hok
                have hcs := hf.single rfl
                exact key (tk q) [] (.own e m) cs none e m (.inl ⟨hΓ, hf, rfl⟩) rfl (by rw [hcs]; rfl) hc
              | _ => cases hc
            | view k π =>
              rw [hΓ] at hok hc
              obtain ⟨⟨d, cs, base, x, c, ad, g1, g2, g3⟩, g4⟩ := hok
              cases π with
              | mk π post =>
              cases post with
              | some φ => cases hc
              | none =>
                obtain ⟨t1, t2, t3⟩ := g2.top
                have hx : ∃ e m, x = .own e m := by
                  have hsh : shapeAt C.P Γ k ⟨π, none⟩ = some x := g2.shape g1
                  simp only [hsh] at hc
                  cases x <;> simp at hc
                  exact ⟨_, _, rfl⟩
                obtain ⟨e, m, rfl⟩ := hx
                have hcs := g3.single rfl
                exact key k π d cs base e m g1 t1 (by rw [← hcs, t2]; rfl) hc
            | _ => rw [hΓ] at hc; cases hc
          · cases hc
      · cases hc
end
end
end Go.Rsc
