/- 'copy(xs[lo:], ys)' of whole numbers, xs a row of the call's own: the run, and the steps of the walk. No conditions. -/
import Derived.Test.YtdpnebdepjdogaaVFnExactAllocWords
import Derived.Laws.IdiomCopy
set_option linter.unusedVariables false
set_option linter.unusedSimpArgs false
namespace Go.Proofs.YtdpnebdepjdogaaW.PrintWords
open Go.RowKit
/-- The row behind a copy to its places from lo on. -/
def copyAt (xs : List Int) (lo : Nat) (ys : List Int) : List Int := xs.take lo ++ (ys.take (xs.length - lo) ++ xs.drop (lo + (ys.take (xs.length - lo)).length))
theorem copyAt_length (xs : List Int) (lo : Nat) (ys : List Int) (h : lo ≤ xs.length) : (copyAt xs lo ys).length = xs.length := by
  unfold copyAt
  simp only [List.length_append, List.length_take, List.length_drop]
  omega
namespace Kd
section
variable {P : Program}
theorem int_reps {k : IntKind} {xs : List Int} {cs : List Value} {R : Int → List Value → Prop} (hR : ∀ x c, R x c ↔ c = [.int k x]) : Reps R 1 xs cs ↔ cs = xs.map (.int k) := by
  constructor
  · rintro ⟨h1, h2⟩
    apply List.ext_getElem?
    intro j
    by_cases hj : j < xs.length
    · have h3 := (hR _ _).1 (h2 j _ (List.getElem?_eq_getElem hj))
      have h4 : ((cs.drop (j * 1)).take 1)[0]? = some (.int k xs[j]) := by rw [h3]; rfl
      rw [List.getElem?_take, if_pos (by omega), List.getElem?_drop, Nat.mul_one, Nat.add_zero] at h4
      rw [h4, List.getElem?_map, List.getElem?_eq_getElem hj]
      rfl
    · rw [List.getElem?_eq_none (by omega), List.getElem?_eq_none (by rw [List.length_map]; omega)]
  · rintro rfl
    refine ⟨by simp, fun j p hp => (hR _ _).2 ?_⟩
    obtain ⟨hj, rfl⟩ := List.getElem?_eq_some_iff.1 hp
    rw [Nat.mul_one]
    rw [List.drop_eq_getElem_cons (by simpa using hj)]
    simp
theorem int_M (k : IntKind) (w : World) (base : Nat) (ok : Nat → Prop) (x : Int) (c : List Value) : (Kd.int k).M w base ok x c ↔ c = [.int k x] := Iff.rfl
theorem R_copy_run (k : IntKind) {W : World} (base : Nat) (t t' ty e : TypeId) (ht : P.underlying t = some (.slice e)) (hi : (P.info? e).map (·.size) = some 1)
    {g n c lo : Nat} {xs ys : List Int} {ok : Nat → Prop} (HO : (Kd.int k).R e W base ok (.slice (some ⟨g, 0, none⟩) n c) xs) (hlo : lo ≤ n)
    {A : Option Addr} (hA : A = if c = lo then some ⟨g, 0, none⟩ else (some (⟨g, 0, none⟩ : Addr)).map (·.add (lo * 1))) (c1 : Nat)
    {SA : Option Addr} {m sc : Nat} (hS : (Kd.int k).C W SA m ys) :
    ∃ w1, (Builtin.copy_ #[t, t'] ty #[.slice A (n - lo) c1, .slice SA m sc]).run P W = .ok (goInt (ys.take (xs.length - lo)).length) w1 ∧ (Kd.int k).R e w1 base ok (.slice (some ⟨g, 0, none⟩) n c) (copyAt xs lo ys) ∧ W.grownBy w1 (some g) := by
  obtain ⟨hn, hnc, _⟩ := R_reads' HO
  have hm : ys.length = m := hS.1
  obtain ⟨cs, hcs⟩ : ∃ cs, cs = (ys.take (xs.length - lo)).map (Value.int k) := ⟨_, rfl⟩
  have hcl : cs.length = (ys.take (xs.length - lo)).length := by rw [hcs, List.length_map]
  have hcn : cs.length = Nat.min m (n - lo) := by
    rw [hcl, List.length_take, hm, ← hn]
    exact Nat.min_comm _ _
  have hxl : (ys.take (xs.length - lo)).length ≤ n - lo := by
    rw [← hcl, hcn]
    exact Nat.min_le_right _ _
  have hc2 : cs.length ≤ n - lo := by omega
  have e1 : (Kd.int k).sz = 1 := rfl
  rw [← hcl]
  by_cases h0 : cs.length = 0
  · have hrun := run_copy_none (P := P) W t t' ty e A SA (n - lo) c1 m sc ht hi (by rw [← hcn]; exact h0)
    have h1 : ys.take (xs.length - lo) = [] := List.eq_nil_of_length_eq_zero (by rw [← hcl]; exact h0)
    have h2 : copyAt xs lo ys = xs := by
      unfold copyAt
      rw [h1]
      simp
    rw [h2, h0]
    exact ⟨W, hrun, HO, ⟨rfl, rfl, rfl, Nat.le_refl _, fun _ _ _ => rfl⟩⟩
  · obtain ⟨hok, inner, hown, hr⟩ := HO
    have hinner := (int_reps (k := k) (int_M k W base _)).1 hr
    rcases hown.2 with ⟨hv, _⟩ | ⟨g', cap', cur, hv, hb, hh, hz, hcm, hcs', htake⟩
    · cases hv
    injection hv with ha _ hc
    injection ha with ha
    injection ha with hg
    subst hg; subst hc
    rw [e1, Nat.mul_one] at hcs'
    have hne : c ≠ lo := by omega
    rw [if_neg hne, Option.map_some, add_at, Nat.zero_add, Nat.mul_one] at hA
    subst hA
    obtain ⟨ad, hSA, hsc⟩ := hS.2.2 (Nat.lt_of_lt_of_le (Nat.pos_of_ne_zero h0) (by rw [hcn]; exact Nat.min_le_left _ _))
    subst hSA
    have hsrc : ∀ j v, cs[j]? = some v → W.cell? (ad.add j) = some v := by
      intro j v hj
      rw [hcs, List.getElem?_map] at hj
      cases hq : (ys.take (xs.length - lo))[j]? with
      | none => rw [hq] at hj; cases hj
      | some y =>
        rw [hq] at hj
        obtain rfl : Value.int k y = v := Option.some.inj hj
        rw [List.getElem?_take] at hq
        split at hq
        · obtain ⟨c', hl, hK, hcell⟩ := hsc j y hq
          obtain rfl : c' = [Value.int k y] := hK
          have := hcell 0 _ rfl
          simpa [Kd.int, scalar] using this
        · cases hq
    have hfit : lo + cs.length ≤ cur.size := by omega
    have hrun := run_copy_cells (P := P) W t t' ty e g lo (n - lo) c1 ad m sc cs ht hi hcn hsrc (fun j hj => by rw [cell_of_row W g _ cur e (0, 0) hh]; simp; omega) (fun j _ => blk_frozen hh _) (fun v hv => by rw [hcs] at hv; obtain ⟨_, _, rfl⟩ := List.mem_map.1 hv; rfl)
    obtain ⟨cur', h3, h4, h5⟩ := setCells_row cs lo W cur hh hfit
    obtain ⟨s1, s2, s3, s4⟩ := setCells_same g cs lo W
    have hfar : ∀ k', k' ≠ g → (W.setCells g lo cs).heap[k']? = W.heap[k']? := fun k' hk' => setCells_far cs lo k' hk'
    have hlen := copyAt_length xs lo ys (by omega)
    refine ⟨_, hrun, ⟨hok, (copyAt xs lo ys).map (.int k), ⟨?_, .inr ⟨g, c, cur', by rw [hlen, hn], hb, h3, by rw [hlen]; omega, hcm, by rw [h4, hcs', e1, Nat.mul_one], ?_⟩⟩, (int_reps (k := k) (int_M k _ base _)).2 rfl⟩, ⟨s1, s2, s3, by rw [s4]; exact Nat.le_refl _, fun k' _ hk' => hfar k' (fun he => hk' (by rw [he]))⟩⟩
    · rw [List.length_map]
      show _ = _ * 1
      omega
    · rw [e1, Nat.mul_one] at htake ⊢
      have h6 : (copyAt xs lo ys).map (Value.int k) = inner.take lo ++ (cs ++ inner.drop (lo + cs.length)) := by
        unfold copyAt
        rw [List.map_append, List.map_append, List.map_take, List.map_drop, ← hcs, ← hinner, hcl]
      have h7 : cur.toList.length = c := by rw [Array.length_toList, hcs']
      have h8 : inner.length = xs.length := by rw [hinner, List.length_map]
      have h9 : (cur.toList.take lo).length = lo := by rw [List.length_take]; omega
      rw [h6, h5, hlen, ← htake, List.take_take, Nat.min_eq_left (by omega), List.drop_take, List.append_assoc, List.take_append, List.take_append, h9, List.take_of_length_le (l := cur.toList.take lo) (by omega), List.take_of_length_le (l := cs) (by omega), show xs.length - lo - cs.length = xs.length - (lo + cs.length) by omega]
end
section
variable {P : Program} {ops : Array Oper} {rest : List Oper} {o : Oper} {a : Act} {Q : Exit → Act → World → Prop} {Kc : Act → World → Prop}
theorem R_copyto (k : IntKind) {w0 W : World} (base : Nat) (hgd : o.guard = none) (d s : Operand) (t t' e : TypeId) (ho : o.op = .call { callee := .builtin .copy, args := #[d, s], argTypes := #[t, t'] })
    (ht : P.underlying t = some (.slice e)) (hinfo : (P.info? e).map (·.size) = some 1) {g n c lo c1 m sc dl : Nat} {A SA : Option Addr} {xs ys : List Int} {ok : Nat → Prop}
    (hd : a.eval d = .slice A dl c1) (hs : a.eval s = .slice SA m sc) (hA : A = if c = lo then some ⟨g, 0, none⟩ else (some (⟨g, 0, none⟩ : Addr)).map (·.add (lo * 1))) (hdl : dl = n - lo)
    (HO : (Kd.int k).R e W base ok (.slice (some ⟨g, 0, none⟩) n c) xs) (hlo : lo ≤ n) (hS : (Kd.int k).C W SA m ys) (HB : Below base w0 W) (hbase : base ≤ W.heap.size)
    (h : ∀ w1, (Kd.int k).R e w1 base ok (.slice (some ⟨g, 0, none⟩) n c) (copyAt xs lo ys) → Below base w0 w1 → W.grownBy w1 (some g) → wpList P ops Q rest (a.put o.dst (goInt (ys.take (xs.length - lo)).length)) w1) : wpList P ops Q (o :: rest) a W := by
  subst hdl
  obtain ⟨w1, hr, h1, h2⟩ := R_copy_run (P := P) k base t t' o.type e ht hinfo HO hlo hA c1 (sc := sc) hS
  refine wpList_plain hgd fun K hK => ?_
  unfold Oper.wp execOp
  simp only [ho, resolve, invoke, builtin, Sem.run_bind, Sem.run_pure, Result.andThen_ok, List.map_toArray, List.map_cons, List.map_nil, hs, hd, hr]
  exact hK _ _ (h w1 h1 (HB.grown h2 hbase (fun k hk => by injection hk with hk; subst hk; exact R_base HO _ (by simp [Value.ownBlock]))) h2)
theorem R_copyto_step (k : IntKind) {w0 W : World} (base : Nat) (hw : Region.wanted o (yielded ops a.tmps) = true) (d s : Operand) (t t' e : TypeId) (ho : o.op = .call { callee := .builtin .copy, args := #[d, s], argTypes := #[t, t'] })
    (ht : P.underlying t = some (.slice e)) (hinfo : (P.info? e).map (·.size) = some 1) {g n c lo c1 m sc dl : Nat} {A SA : Option Addr} {xs ys : List Int} {ok : Nat → Prop}
    (hd : a.eval d = .slice A dl c1) (hs : a.eval s = .slice SA m sc) (hA : A = if c = lo then some ⟨g, 0, none⟩ else (some (⟨g, 0, none⟩ : Addr)).map (·.add (lo * 1))) (hdl : dl = n - lo)
    (HO : (Kd.int k).R e W base ok (.slice (some ⟨g, 0, none⟩) n c) xs) (hlo : lo ≤ n) (hS : (Kd.int k).C W SA m ys) (HB : Below base w0 W) (hbase : base ≤ W.heap.size)
    (h : ∀ w1, (Kd.int k).R e w1 base ok (.slice (some ⟨g, 0, none⟩) n c) (copyAt xs lo ys) → Below base w0 w1 → W.grownBy w1 (some g) → Kc (a.put o.dst (goInt (ys.take (xs.length - lo)).length)) w1) :
    if Region.wanted o (yielded ops a.tmps) = true then Oper.wp P o a W Kc Q else Kc (a.put o.dst undef) W := by
  subst hdl
  obtain ⟨w1, hr, h1, h2⟩ := R_copy_run (P := P) k base t t' o.type e ht hinfo HO hlo hA c1 (sc := sc) hS
  rw [if_pos hw]
  unfold Oper.wp execOp
  simp only [ho, resolve, invoke, builtin, Sem.run_bind, Sem.run_pure, Result.andThen_ok, List.map_toArray, List.map_cons, List.map_nil, hs, hd, hr]
  exact h w1 h1 (HB.grown h2 hbase (fun k hk => by injection hk with hk; subst hk; exact R_base HO _ (by simp [Value.ownBlock]))) h2
end
end Kd
end Go.Proofs.YtdpnebdepjdogaaW.PrintWords
