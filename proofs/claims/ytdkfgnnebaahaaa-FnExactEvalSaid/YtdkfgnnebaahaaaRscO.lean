/- Stores; new variables. No conditions. -/
import Derived.Test.YtdkfgnnebaahaaaRscN
namespace Go.Rsc
open Go.RowKit
set_option linter.unusedVariables false
set_option linter.unusedSimpArgs false

section
variable {P : Program} {w w' : World} {F F' : Set} {Γ : Nat → D} {σ : Nat → PV} {val : Nat → Value} {loc : Nat → Nat} {S : Nat → Set} {C : Cx} {tmps : Array Value}
variable {d d' x y : SD} {cs c : List Value} {p q : PV} {T T' : Set}

theorem zeroOf_ok {t : TypeId} {px : PX} (h : zeroOf P t = some (d, px)) : ∃ i z, P.info? t = some i ∧ i.zero = some z ∧ R P w F d z.cells.toList (px.eval σ []) Set.none ∧ tyOk P t d = true := by
  unfold zeroOf at h
  split at h
  · rename_i z hz
    obtain ⟨i, hi, hz⟩ := Option.bind_eq_some_iff.1 hz
    simp only at h
    split at h
    · rename_i hc
      simp only [Bool.and_eq_true] at hc
      simp only [Option.some.injEq, Prod.mk.injEq] at h
      obtain ⟨rfl, rfl⟩ := h
      exact ⟨i, z, hi, hz, zeroR_ok hc.1, hc.2⟩
    · cases h
  · cases h

/-- A part of a block is written. -/
def wrote (w : World) (g o : Nat) (cur : Array Value) (vs : List Value) : World := w.setRow g (cur.toList.take o ++ vs ++ cur.toList.drop (o + vs.length)).toArray
theorem run_storeAt {t ty : TypeId} {v : Value} {g o : Nat} {cur : Array Value} (hg : w.heap[g]? = some (.cells cur ty (0, 0))) (ht : tyOk P t d = true) (hf : v.cells.toList = cs) (hl : cs.length = d.sz) (hfit : o + cs.length ≤ cur.size) (h1 : ∀ u ∈ cs, u.oneCell' = true) :
    (Instr.storeAt t (.pointer (some ⟨g, o, none⟩)) v).run P w = .ok () (wrote w g o cur cs) := by
  obtain ⟨⟨x, hu, _⟩, hsz⟩ := tyOk_spec ht
  have hst := run_storeCells_at P g o ty cs 0 cur w hg (by simpa using hfit) h1
  simp only [Nat.add_zero] at hst
  have hvs : v.cells.size = cs.length := by rw [← hf]; simp
  simp only [Instr.storeAt, Instr.sureAddr, storeVar, Sem.run_bind, Sem.run_pure, Result.andThen_ok, run_sizeOf' hu, hsz, hvs, hl, ne_eq, not_true_eq_false, if_false, hf]
  exact hst

theorem SD.setN_nth : ∀ {d : SD} {i : Nat} {x : SD}, d.nth i = some x → d.setN i x = d
  | .sc d ds, 0, x, h => by simp only [SD.nth, Option.some.injEq] at h; subst h; rfl
  | .sc d ds, i + 1, x, h => by simp only [SD.nth] at h; simp only [SD.setN, SD.setN_nth h]
  | .int _, _, _, h | .bool, _, _, h | .str, _, _, h | .bor _, _, _, h | .nl, _, _, h | .own _ _, _, _, h | .mz, _, _, h | .mp _, _, _, h | .sb _, _, _, h | .ifc, _, _, h | .np, _, _, h | .fp _, _, _, h | .sn, _, _, h | .dead _, _, _, h => by simp [SD.nth] at h
theorem SD.put_get : ∀ (π : List Nat) {d x : SD}, d.get π = some x → d.put π x = d
  | [], d, x, h => by simp only [SD.get, Option.some.injEq] at h; subst h; rfl
  | i :: π, d, x, h => by
    simp only [SD.get] at h
    obtain ⟨y, hy, h⟩ := Option.bind_eq_some_iff.1 h
    simp only [SD.put, hy, SD.put_get π h, SD.setN_nth hy]

section
variable {a : Act} {o : Oper} {K : Act → World → Prop} {Q : Exit → Act → World → Prop} {dst : Nat} {v : Value} {I : Interp} {σ' : Nat → PV} {r : SR}

theorem cAlloc_ok {t : TypeId} (h : RelX C Γ σ val loc S F a.tmps w) (ht : dst < C.nt) (hdst : o.dst = some dst) (hop : o.op = .alloc t)
    (hc : cAlloc C.P dst t = some r) (hrun : r.run I σ = some σ') (hK : Cont C (apS Γ r) σ' a K) : o.wp C.P a w K Q := by
  unfold cAlloc at hc
  obtain ⟨⟨d, px⟩, hz, rfl⟩ := Option.map_eq_some_iff.1 hc
  obtain ⟨i, z, hi, hz, hR, hty⟩ := zeroOf_ok (w := w) (F := F) (σ := σ) hz
  have hr : (execOp a.eval o).run C.P w = .ok (.value (.pointer (some ⟨w.heap.size, 0, none⟩))) (w.alloc (.cells z.cells t)) := by
    simp [execOp, hop, Instr.alloc, zeroValue, typeInfo, hi, hz, run_newVar]
  obtain ⟨_, rfl⟩ := sr_run (chk := []) (pre := []) hrun
  refine wp_val hdst hr (hK _ _ ?_ rfl)
  have e : setAll (preRun [] σ) [] [(bk dst, px), (tk dst, PX.unit)] = updF (updF σ (tk dst) .unit) (bk dst) (px.eval σ []) := by rw [setAll_two]; rfl
  show Rel C (ap Γ [(bk dst, D.box t d), (tk dst, D.bp (bk dst))] [bk dst, tk dst] []) _ _ _
  rw [e]
  refine ⟨_, _, _, _, h.newBox (p := px.eval σ []) ht (ks := []) (by simp) (g := .box t d) ?_⟩
  refine ⟨z.cells, Set.none, by rw [updF_same]; exact heap_alloc_new w _, by rw [updF_same]; simp, fun b' hb => hb.elim, ?_⟩
  rw [updF_same]
  exact hR.imp (fun b hb => hb) (fun b hb => hb) (fun b' hb => heap_alloc_old w _ b' (hb.elim (h.fz b') (fun h => h.elim)))

theorem upon_skip0 (hdst : o.dst = none) (hr : (execOp a.eval o).run P w = .ok .skip w') (hK : K a w') : o.wp P a w K Q := by
  unfold Oper.wp
  rw [hr, Oper.upon_skip, hdst]
  exact hK

theorem wrote_self {g o : Nat} {cur : Array Value} {vs : List Value} {t : TypeId} (hg : w.heap[g]? = some (.cells cur t (0, 0))) : (wrote w g o cur vs).heap[g]? = some (.cells (cur.toList.take o ++ vs ++ cur.toList.drop (o + vs.length)).toArray t (0, 0)) := setRow_heap w g cur _ t _ hg
theorem wrote_other {g o b : Nat} {cur : Array Value} {vs : List Value} (hb : b ≠ g) : (wrote w g o cur vs).heap[b]? = w.heap[b]? := setRow_other w g b _ hb
theorem mid_toList {pre c post : List Value} {vs : List Value} {n m : Nat} {arr : Array Value} (he : arr.toList = pre ++ c ++ post) (hp : pre.length = n) (hc : c.length = m) (hv : vs.length = m) :
    (arr.toList.take n ++ vs ++ arr.toList.drop (n + vs.length)) = pre ++ vs ++ post := by
  rw [he, hv, ← hp, ← hc]
  simp [List.append_assoc, List.take_append, List.drop_append]

theorem storePlace_ok {m : MS} {b : Nat} {u : Value} {S1 : Nat → Set} (h : RelX C Γ σ val loc S F tmps w) (h1 : RelX C (apm Γ m) (setAll σ [] m.sets) (updF val (vk b) u) loc S1 F tmps w) {p : Nat} {k : Nat} {π : Pth} (hp : storePlace C.P Γ (apm Γ m) p = some (k, π, x)) :
    ∃ d cs base c g off, Root w (apm Γ m) (updF val (vk b) u) loc S1 k d cs base ∧ Sub C.P w (S1 k) d cs base π (setAll σ [] m.sets (tk p)).toInt.toNat x c (some (g, off)) ∧ updF val (vk b) u (tk p) = .pointer (some ⟨g, off, none⟩) := by
  unfold storePlace at hp
  split at hp
  · rename_i res hpl
    simp only [Option.some.injEq] at hp
    subst hp
    obtain ⟨d, cs, base, c, g, off, r1, r2, r3, _⟩ := placeOf_ok h1 hpl
    exact ⟨d, cs, base, c, g, off, r1, r2, r3⟩
  · by_cases hz : (apm Γ m (tk p) == D.none) = true
    rotate_left
    · rw [if_neg hz] at hp; cases hp
    rw [if_pos hz] at hp
    split at hp
    · rename_i o' π' hpt
      split at hp
      · cases hp
      · rename_i hpo
        simp only [Bool.not_eq_true, Option.isSome_eq_false_iff, Option.isNone_iff_eq_none] at hpo
        split at hp
        · rename_i t0 d0 t1 d1 hΓ hΓ1
          split at hp
          · rename_i hoff
            have hoff := beq_iff.1 hoff
            obtain ⟨d, hd, e⟩ := Option.map_eq_some_iff.1 hp
            simp only [Prod.mk.injEq] at e
            obtain ⟨rfl, rfl, rfl⟩ := e
            have hk := h1.ok o'
            rw [hΓ1] at hk
            obtain ⟨arr, T, a1, a2, a3, a4⟩ := hk
            have hvp : val (tk p) = .pointer (some ⟨loc o', d0.off π'.pre, none⟩) := by
              have hok := h.ok (tk p)
              unfold ptrOf at hpt
              split at hpt
              · rename_i o2 hΓp
                simp only [Option.some.injEq, Prod.mk.injEq] at hpt
                obtain ⟨rfl, rfl⟩ := hpt
                rw [hΓp] at hok
                exact hok.1
              · rename_i o2 π2 hΓp
                simp only [Option.some.injEq, Prod.mk.injEq] at hpt
                obtain ⟨rfl, rfl⟩ := hpt
                rw [hΓp] at hok
                obtain ⟨⟨d2, cs2, base2, x2, c2, g2, off2, b1, b2, b3⟩, _⟩ := hok
                rw [b3]
                unfold Sub at b2
                simp only [hpo] at b2
                have := b1.sd
                simp only [rootSD, hΓ, Option.some.injEq] at this
                subst this
                rcases b1 with ⟨c1, _⟩ | ⟨_, _, _, _, _, _, c6⟩
                · rw [hΓ] at c1; cases c1
                · rw [c6] at b2
                  have := b2.2.2
                  simp only [Option.map_some, Option.some.injEq, Prod.mk.injEq] at this
                  rw [this.1, this.2]
              · cases hpt
            refine ⟨d1, arr.toList, some (loc o'), _, loc o', d1.off π'.pre, .inr ⟨t1, arr, hΓ1, a1, a2, rfl, rfl⟩, ⟨hd, rfl, rfl⟩, ?_⟩
            rw [updF_ne _ _ (Ne.symm (vk_ne_tk b p)), hvp, hoff]
          · cases hp
        · cases hp
    · cases hp

theorem R.aggOf {P : Program} {w : World} {F : Set} : ∀ {i : Nat} {d : SD} {cs : List Value} {p : PV} {T : Set} {y : SD}, R P w F d cs p T → d.nth i = some y → ∃ l, p = .agg l ∧ i < l.length
  | 0, d, cs, p, T, y, h, hn => by
    cases h <;> first | (simp [SD.nth] at hn; done) | exact ⟨_, rfl, by simp⟩
  | i + 1, d, cs, p, T, y, h, hn => by
    cases h <;> first | (simp [SD.nth] at hn; done) | skip
    rename_i h1 h2 _ _ _
    simp only [SD.nth] at hn
    obtain ⟨l, e, hl⟩ := R.aggOf h2 hn
    simp only [PV.agg.injEq] at e
    subst e
    exact ⟨_, rfl, by simpa using hl⟩
theorem R.put_same {P : Program} {w : World} {F : Set} : ∀ (π : List Nat) {d : SD} {cs : List Value} {p : PV} {T : Set} {x : SD}, R P w F d cs p T → d.get π = some x → p.put π (p.get π) = p
  | [], _, _, _, _, _, _, _ => rfl
  | i :: π, d, cs, p, T, x, h, hx => by
    simp only [SD.get] at hx
    obtain ⟨y, hy, hx⟩ := Option.bind_eq_some_iff.1 hx
    obtain ⟨l, rfl, hl⟩ := R.aggOf h hy
    obtain ⟨pre0, c0, post0, S0, rfl, hl0, hr0, hS0, wand0⟩ := h.nth hy
    have ih := R.put_same π hr0 hx
    show PV.setFld (.agg l) i (((PV.agg l).fld i).put π (((PV.agg l).fld i).get π)) = _
    rw [ih]
    simp [PV.setFld, PV.fld, PV.toAgg, List.getD_eq_getElem?_getD, hl]
/-- An element of an owned row, and what comes of the whole when it turns. -/
theorem R.atElem {P : Program} {w : World} {F : Set} {d : SD} {cs : List Value} {p : PV} {T0 : Set} {pre φ : List Nat} {j g n cap : Nat} {e : TypeId} {m : Bool} {arr : Array Value} {x : SD} (hR : R P w F d cs p T0) (u1 : d.get pre = some (.own e m)) (u2 : (cs.drop (d.off pre)).take 1 = [.slice (some ⟨g, 0, none⟩) n cap]) (u3 : j < n) (u5 : w.heap[g]? = some (.cells arr e (0, 0))) (u6 : (el P m e).get φ = some x) :
    ∃ ps T3, p.get pre = .list ps ∧ ps.length = n ∧ R P w F x (((elemAt arr.toList (el P m e).sz j).drop ((el P m e).off φ)).take x.sz) ((ps.getD j .unit).get φ) T3 ∧ (∀ b, T3 b → T0 b) ∧ T0 g ∧ ¬ T3 g ∧ j * (el P m e).sz + (el P m e).off φ + x.sz ≤ arr.size ∧ p.put pre (.list (ps.set j ((ps.getD j .unit).put φ ((ps.getD j .unit).get φ)))) = p ∧
      ∀ {w' : World} {c' : List Value} {q : PV} {T3' : Set}, (∀ b, F b ∨ (T0 b ∧ ¬ T3 b ∧ b ≠ g) → w'.heap[b]? = w.heap[b]?) → w'.heap[g]? = some (.cells (arr.toList.take (j * (el P m e).sz + (el P m e).off φ) ++ c' ++ arr.toList.drop (j * (el P m e).sz + (el P m e).off φ + x.sz)).toArray e (0, 0)) → R P w' F x c' q T3' → (∀ b, T3' b → T0 b → T3 b) →
        R P w' F d cs (p.put pre (.list (ps.set j ((ps.getD j .unit).put φ q)))) (fun b => (T0 b ∧ ¬ T3 b) ∨ T3' b) := by
  obtain ⟨pre1, c1, post1, T1, ecs, hlen, hR1, hT1, wand⟩ := R.focus pre hR u1
  have hc1 : c1 = [.slice (some ⟨g, 0, none⟩) n cap] := by rw [← u2, ecs, take_drop_mid (m := 1) hlen hR1.len]
  subst hc1
  obtain ⟨ps, hps, hv | ⟨b0, cap0, arr0, hv, v1, v2, v3, v4, v5, v6⟩⟩ := R.ofOwn hR1
  · simp at hv
  · simp only [Value.slice.injEq, Option.some.injEq, Addr.mk.injEq, and_true] at hv
    obtain ⟨rfl, rfl, rfl⟩ := hv
    rw [u5] at v1
    simp only [Option.some.injEq, Obj.cells.injEq, and_true] at v1
    subst v1
    rw [hps] at hR1
    have hje := getD_some (l := ps) (j := j) (by omega) .unit
    obtain ⟨b1, cap1, arr1, T2, w1, w2, w3, w4, w5, w6, w7, w8, w9, hR2, wand2⟩ := R.idx hR1 hje
    simp only [Value.slice.injEq, Option.some.injEq, Addr.mk.injEq, and_true, true_and] at w1
    obtain ⟨rfl, rfl⟩ := w1
    rw [u5] at w2
    simp only [Option.some.injEq, Obj.cells.injEq, and_true, true_and] at w2
    subst w2
    obtain ⟨pre2, c2, post2, T3, ecs2, hlen2, hR3, hT3, wand3⟩ := R.focus φ hR2 u6
    have hl2 := hR3.len
    have hel : (elemAt arr.toList (el P m e).sz j).length = (el P m e).sz := elemAt_length (n := cap) (by simpa using w6) (by omega)
    have hjle : j * (el P m e).sz + (el P m e).sz ≤ arr.size := by
      rw [w6, ← Nat.succ_mul]; exact Nat.mul_le_mul_right _ (by omega)
    have h0 : arr.toList = arr.toList.take (j * (el P m e).sz) ++ (elemAt arr.toList (el P m e).sz j ++ arr.toList.drop (j * (el P m e).sz + (el P m e).sz)) := by
      unfold elemAt
      rw [← List.drop_drop, List.take_append_drop, List.take_append_drop]
    have hc2 : ((elemAt arr.toList (el P m e).sz j).drop ((el P m e).off φ)).take x.sz = c2 := by rw [ecs2]; exact take_drop_mid hlen2 hl2
    have hle2 : (el P m e).off φ + x.sz ≤ (el P m e).sz := by
      rw [← hel, ecs2]; simp only [List.length_append]; omega
    have hput : p.put pre (.list (ps.set j ((ps.getD j .unit).put φ ((ps.getD j .unit).get φ)))) = p := by
      rw [R.put_same φ hR2 u6]
      have : ps.set j (ps.getD j .unit) = ps := by
        have hlt : j < ps.length := u3
        simp [List.getD_eq_getElem?_getD, hlt]
      rw [this, ← hps]
      exact R.put_same pre hR u1
    refine ⟨ps, T3, hps, rfl, by rw [hc2]; exact hR3, fun b hb => hT1 b (w4 b (hT3 b hb)), hT1 _ v2, fun hb => w5 (hT3 _ hb), by omega, hput, fun {w' c' q T3'} hw hg hq hd => ?_⟩
    have htk0 : (arr.toList.take (j * (el P m e).sz)).length = j * (el P m e).sz := by rw [List.length_take, Array.length_toList]; omega
    have htk : arr.toList.take (j * (el P m e).sz + (el P m e).off φ) = arr.toList.take (j * (el P m e).sz) ++ pre2 := by
      conv => lhs; rw [h0, ecs2]
      rw [List.append_assoc, List.append_assoc, ← List.append_assoc (arr.toList.take _), ← hlen2]
      have : (arr.toList.take (j * (el P m e).sz) ++ pre2).length = j * (el P m e).sz + pre2.length := by rw [List.length_append, htk0]
      rw [← this, List.take_left]
    have hdr : arr.toList.drop (j * (el P m e).sz + (el P m e).off φ + x.sz) = post2 ++ arr.toList.drop (j * (el P m e).sz + (el P m e).sz) := by
      conv => lhs; rw [h0, ecs2]
      have e1 : arr.toList.take (j * (el P m e).sz) ++ (pre2 ++ c2 ++ post2 ++ arr.toList.drop (j * (el P m e).sz + (el P m e).sz)) = (arr.toList.take (j * (el P m e).sz) ++ pre2 ++ c2) ++ (post2 ++ arr.toList.drop (j * (el P m e).sz + (el P m e).sz)) := by simp [List.append_assoc]
      rw [e1]
      have : (arr.toList.take (j * (el P m e).sz) ++ pre2 ++ c2).length = j * (el P m e).sz + (el P m e).off φ + x.sz := by rw [List.length_append, List.length_append, htk0, hlen2, hl2]
      rw [← this, List.drop_left]
    rw [htk, hdr] at hg
    generalize harr' : (List.toArray (arr.toList.take (j * (el P m e).sz) ++ pre2 ++ c' ++ (post2 ++ arr.toList.drop (j * (el P m e).sz + (el P m e).sz)))) = arr' at hg
    have ha' : arr'.toList = arr.toList.take (j * (el P m e).sz) ++ (pre2 ++ c' ++ post2) ++ arr.toList.drop (j * (el P m e).sz + (el P m e).sz) := by
      rw [← harr']; simp [List.append_assoc]
    have hmid : (pre2 ++ c' ++ post2).length = (el P m e).sz := by
      rw [← hel, ecs2]; simp [hq.len, hl2]
    have hself : elemAt arr'.toList (el P m e).sz j = pre2 ++ c' ++ post2 := by
      unfold elemAt
      rw [ha', take_drop_mid htk0 hmid]
    have hoth : ∀ i, i ≠ j → elemAt arr'.toList (el P m e).sz i = elemAt arr.toList (el P m e).sz i := by
      intro i hij
      have main : ∀ (A B B' Z : List Value), A.length = j * (el P m e).sz → B.length = (el P m e).sz → B'.length = (el P m e).sz → elemAt (A ++ B ++ Z) (el P m e).sz i = elemAt (A ++ B' ++ Z) (el P m e).sz i := by
        intro A B B' Z hA hB hB'
        unfold elemAt
        apply List.ext_getElem?
        intro k'
        rw [List.getElem?_take, List.getElem?_take]
        split
        · rename_i hk'
          rw [List.getElem?_drop, List.getElem?_drop]
          rcases Nat.lt_or_gt_of_ne hij with hij | hij
          · have : (i + 1) * (el P m e).sz ≤ j * (el P m e).sz := Nat.mul_le_mul_right _ hij
            rw [Nat.succ_mul] at this
            rw [List.append_assoc, List.append_assoc, List.getElem?_append_left (by omega), List.getElem?_append_left (by omega)]
          · have : (j + 1) * (el P m e).sz ≤ i * (el P m e).sz := Nat.mul_le_mul_right _ hij
            rw [Nat.succ_mul] at this
            rw [List.getElem?_append_right (by simp; omega), List.getElem?_append_right (by simp; omega)]
            simp [hA, hB, hB']
        · rfl
      rw [ha']
      conv => rhs; rw [h0, ← List.append_assoc]
      exact main _ _ _ _ htk0 hmid hel
    have hsz' : arr'.size = arr.size := by
      rw [← Array.length_toList, ha', List.length_append, List.length_append, hmid, htk0, List.length_drop, Array.length_toList]; omega
    have q2 := wand3 (w' := w') (F' := F) (fun b hb => hb) (fun b' hb' => hw b' (hb'.imp_right fun ⟨a1, a2⟩ => ⟨hT1 _ (w4 _ a1), a2, fun e => w5 (e ▸ a1)⟩)) hq (fun b' hb' hb'' => hd b' hb' (hT1 _ (w4 _ hb'')))
    rw [SD.put_get φ u6] at q2
    have q3 := wand2 (w' := w') (F' := F) (fun b hb => hb) (fun b' hb' => hw b' (hb'.imp_right fun ⟨a1, a2, a3⟩ => ⟨hT1 _ a1, fun h3 => a2 (hT3 _ h3), a3⟩)) hg hsz' hoth (by rw [hself]; exact q2) (fun b' hb' hb'' => by
      rcases hb' with hb' | hb'
      · exact hb'.1
      · exact hT3 _ (hd b' hb' (hT1 _ hb'')))
    have q4 := wand (w' := w') (F' := F) (fun b hb => hb) (fun b' hb' => hw b' (hb'.imp_right fun ⟨a1, a2⟩ => ⟨a1, fun h3 => a2 (w4 _ (hT3 _ h3)), fun e => a2 (e ▸ v2)⟩)) q3 (fun b' hb' hb'' => by
      rcases hb' with hb' | hb' | hb'
      · exact hb'.1
      · exact w4 b' hb'.1
      · exact w4 _ (hT3 _ (hd b' hb' hb'')))
    rw [SD.put_get pre u1, ← ecs] at q4
    refine q4.wide fun b hb => ?_
    rcases hb with hb | hb | hb | hb
    · exact .inl ⟨hb.1, fun h3 => hb.2 (w4 _ (hT3 _ h3))⟩
    · exact .inl ⟨hT1 _ hb.1, fun h3 => hb.2 (hT3 _ h3)⟩
    · exact .inl ⟨hT1 _ (w4 _ hb.1), hb.2⟩
    · exact .inr hb
theorem cStore_ok {b : Nat} {t : TypeId} {ap ax : Operand} (h : RelX C Γ σ val loc S F a.tmps w) (hdst : o.dst = none) (hop : o.op = .store t ap ax)
    (hc : cStore b C.P Γ t ap ax = some r) (hrun : r.run I σ = some σ') (hK : Cont C (apS Γ r) σ' a K) : o.wp C.P a w K Q := by
  unfold cStore at hc
  split at hc
  · rename_i d' m q htk
    simp only at hc
    split at hc
    · rename_i k π d hpl
      split at hc
      · cases hc
      · rename_i hcond
        simp only [Bool.or_eq_true, Bool.not_eq_true', not_or, Bool.not_eq_false, Bool.not_eq_true, beq_iff] at hcond
        obtain ⟨⟨⟨hne, hsz⟩, hty⟩, hdead⟩ := hcond
        have hne : k ≠ vk b := hne
        obtain ⟨S1, h1, hg⟩ := take_ok h (vk_mod b) htk
        have hok := h1.ok (vk b)
        rw [hg] at hok
        obtain ⟨cv, hf, hRv⟩ := hok
        rw [updF_same] at hf
        have hcells := hf.cells_eq hRv hdead
        have hone := hRv.oneCell hdead
        obtain ⟨d0, cs, base, c, g, off, r1, r2, r3⟩ := storePlace_ok h h1 hpl
        have hev : a.eval (.tmp q) = .pointer (some ⟨g, off, none⟩) := by
          rw [← r3]; exact (h1.tm q).symm
        have hex : ∀ {w'}, (Instr.storeAt t (.pointer (some ⟨g, off, none⟩)) (evalOp a.tmps ax)).run C.P w = .ok () w' → (execOp a.eval o).run C.P w = .ok .skip w' := fun {w'} e2 => by
          simp [execOp, hop, hev, evalOp_eq, e2]
        obtain ⟨T0, hR, hT0⟩ := h1.rootR r1
        cases π with
        | mk π post =>
        cases post with
        | none =>
          simp only [Option.some.injEq] at hc
          subst hc
          obtain ⟨_, rfl⟩ := sr_run (chk := []) hrun
          obtain ⟨t1, t2, t3⟩ := r2.top
          rcases r1 with ⟨_, _, rfl⟩ | ⟨ty, arr, hΓk, hheap, hSk, hcs, hbase⟩
          · simp at t3
          · subst hbase
            simp only [Option.map_some, Option.some.injEq, Prod.mk.injEq] at t3
            obtain ⟨rfl, rfl⟩ := t3
            obtain ⟨pre, c1, post, T1, ecs, hlen, hR1, hT1, wand⟩ := R.focus π hR t1
            have hl1 : c1.length = d'.sz := by rw [hR1.len]; exact hsz.symm
            have hst := run_storeAt (P := C.P) (w := w) (t := t) (v := evalOp a.tmps ax) (o := d0.off π) hheap hty hcells hRv.len (by
              rw [hRv.len, ← hlen, ← hl1, ← Array.length_toList, ← hcs, ecs]; simp) hone
            refine upon_skip0 hdst (hex hst) (hK _ _ ?_ rfl)
            have e : setAll (preRun [m] σ) [] [(k, putPX k ⟨π, none⟩ PX.unit (.k (vk b)))] = updF (setAll σ [] m.sets) k (((setAll σ [] m.sets) k).put π ((setAll σ [] m.sets) (vk b))) := by rw [setAll_one]; rfl
            show Rel C (Rsc.ap (apm Γ m) [(k, setRoot (apm Γ m) k π d'), (vk b, .none)] [] []) _ _ _
            rw [e]
            have hsr : setRoot (apm Γ m) k π d' = .box ty (d0.put π d') := by unfold setRoot; rw [hΓk]
            rw [hsr]
            have hwr := wrote_self (w := w) (o := d0.off π) (vs := cv) hheap
            rw [mid_toList (by rw [← hcs, ecs]) hlen hl1 hRv.len] at hwr
            refine ⟨_, _, _, _, h1.reroot (w' := wrote w (loc k) (d0.off π) arr cv) (vk_mod b) hne (g := .box ty (d0.put π d')) (q := ((setAll σ [] m.sets) k).put π ((setAll σ [] m.sets) (vk b))) (.inl rfl) (fun b' _ hs _ => wrote_other (fun e => hs (e ▸ hSk))) rfl rfl rfl (by simp [wrote, World.setRow]) ?_⟩
            refine ⟨_, (fun b' => (T0 b' ∧ ¬ T1 b') ∨ S1 (vk b) b'), hwr, by simp only [if_true]; exact .inl hSk, fun b' hb' => ⟨?_, ?_⟩, ?_⟩
            · simp only [if_true]
              rcases hb' with hb' | hb'
              · exact .inl (hT0 b' hb'.1).1
              · exact .inr hb'
            · rcases hb' with hb' | hb'
              · exact (hT0 b' hb'.1).2 _ rfl
              · intro e; subst e; exact hne (h1.dj _ _ _ hSk hb')
            · rw [updF_same]
              refine wand (fun b hb => hb) (fun b' hb' => wrote_other fun e => ?_) (hRv.imp (fun b hb => hb) (fun b hb => hb) (fun b' hb' => wrote_other fun e => ?_)) (fun b' hb' hb'' => (hne (h1.dj _ _ _ (hT0 b' hb'').1 hb')).elim)
              · subst e
                rcases hb' with hb' | hb'
                · exact h1.sF _ _ hSk hb'
                · exact (hT0 _ hb'.1).2 _ rfl rfl
              · subst e
                rcases hb' with hb' | hb'
                · exact h1.sF _ _ hSk hb'
                · exact hne (h1.dj _ _ _ hSk hb')
        | some φ =>
          simp only at hc
          split at hc
          · rename_i hcoe
            simp only [Option.some.injEq] at hc
            subst hc
            obtain ⟨_, rfl⟩ := sr_run (chk := []) hrun
            generalize hj : (setAll σ [] m.sets (tk q)).toInt.toNat = j at r2
            unfold Sub at r2
            obtain ⟨e, ml, bl, n, cap, arr, u1, u2, u3, u4, u5, u6, u7, u8⟩ := r2
            simp only [Option.some.injEq, Prod.mk.injEq] at u8
            obtain ⟨rfl, rfl⟩ := u8
            obtain ⟨pre, c1, post, T1, ecs, hlen, hR1, hT1, wand⟩ := R.focus π hR u1
            have hc1 : c1 = [.slice (some ⟨g, 0, none⟩) n cap] := by rw [← u2, ecs, take_drop_mid (m := 1) hlen hR1.len]
            subst hc1
            obtain ⟨ps, hps, hv | ⟨b0, cap0, arr0, hv, v1, v2, v3, v4, v5, v6⟩⟩ := R.ofOwn hR1
            · simp at hv
            · simp only [Value.slice.injEq, Option.some.injEq, Addr.mk.injEq, and_true] at hv
              obtain ⟨rfl, rfl, rfl⟩ := hv
              rw [u5] at v1
              simp only [Option.some.injEq, Obj.cells.injEq, and_true] at v1
              subst v1
              rw [hps] at hR1
              have hje := getD_some (l := ps) (j := j) (by omega) .unit
              obtain ⟨b1, cap1, arr1, T2, w1, w2, w3, w4, w5, w6, w7, w8, w9, hR2, wand2⟩ := R.idx hR1 hje
              simp only [Value.slice.injEq, Option.some.injEq, Addr.mk.injEq, and_true, true_and] at w1
              obtain ⟨rfl, rfl⟩ := w1
              rw [u5] at w2
              simp only [Option.some.injEq, Obj.cells.injEq, and_true, true_and] at w2
              subst w2
              obtain ⟨pre2, c2, post2, T3, ecs2, hlen2, hR3, hT3, wand3⟩ := R.focus φ hR2 u6
              have hl2 : c2.length = d'.sz := by rw [hR3.len]; exact hsz.symm
              have hel : (elemAt arr.toList (el C.P ml e).sz j).length = (el C.P ml e).sz := elemAt_length (n := cap) (by simpa using w6) (by omega)
              -- the row, about the place
              have harr : arr.toList = (arr.toList.take (j * (el C.P ml e).sz) ++ pre2) ++ c2 ++ (post2 ++ arr.toList.drop (j * (el C.P ml e).sz + (el C.P ml e).sz)) := by
                have h0 : arr.toList = arr.toList.take (j * (el C.P ml e).sz) ++ (elemAt arr.toList (el C.P ml e).sz j ++ arr.toList.drop (j * (el C.P ml e).sz + (el C.P ml e).sz)) := by
                  unfold elemAt
                  rw [← List.drop_drop, List.take_append_drop, List.take_append_drop]
                conv => lhs; rw [h0, ecs2]
                simp [List.append_assoc]
              have hjle : j * (el C.P ml e).sz + (el C.P ml e).sz ≤ arr.size := by
                rw [w6, ← Nat.succ_mul]; exact Nat.mul_le_mul_right _ (by omega)
              have hplen : (arr.toList.take (j * (el C.P ml e).sz) ++ pre2).length = j * (el C.P ml e).sz + (el C.P ml e).off φ := by
                rw [List.length_append, List.length_take, hlen2, Array.length_toList]; omega
              have hst := run_storeAt (P := C.P) (w := w) (t := t) (v := evalOp a.tmps ax) (o := j * (el C.P ml e).sz + (el C.P ml e).off φ) u5 hty hcells hRv.len (by
                rw [hRv.len, ← hl2, ← Array.length_toList, harr, ← hplen]; simp; omega) hone
              refine upon_skip0 hdst (hex hst) (hK _ _ ?_ rfl)
              have hwr := wrote_self (w := w) (o := j * (el C.P ml e).sz + (el C.P ml e).off φ) (vs := cv) u5
              rw [mid_toList harr hplen hl2 hRv.len] at hwr
              generalize harr' : (List.toArray (arr.toList.take (j * (el C.P ml e).sz) ++ pre2 ++ cv ++ (post2 ++ arr.toList.drop (j * (el C.P ml e).sz + (el C.P ml e).sz)))) = arr' at hwr
              have ha' : arr'.toList = arr.toList.take (j * (el C.P ml e).sz) ++ (pre2 ++ cv ++ post2) ++ arr.toList.drop (j * (el C.P ml e).sz + (el C.P ml e).sz) := by
                rw [← harr']; simp [List.append_assoc]
              have hmid : (pre2 ++ cv ++ post2).length = (el C.P ml e).sz := by
                rw [← hel, ecs2]; simp [hRv.len, hl2]
              have htk0 : (arr.toList.take (j * (el C.P ml e).sz)).length = j * (el C.P ml e).sz := by rw [List.length_take, Array.length_toList]; omega
              have hself : elemAt arr'.toList (el C.P ml e).sz j = pre2 ++ cv ++ post2 := by
                unfold elemAt
                rw [ha', take_drop_mid htk0 hmid]
              have hoth : ∀ i, i ≠ j → elemAt arr'.toList (el C.P ml e).sz i = elemAt arr.toList (el C.P ml e).sz i := by
                intro i hij
                have h0 : arr.toList = arr.toList.take (j * (el C.P ml e).sz) ++ elemAt arr.toList (el C.P ml e).sz j ++ arr.toList.drop (j * (el C.P ml e).sz + (el C.P ml e).sz) := by
                  unfold elemAt
                  rw [← List.drop_drop, List.append_assoc, List.take_append_drop, List.take_append_drop]
                have main : ∀ (A B B' Z : List Value), A.length = j * (el C.P ml e).sz → B.length = (el C.P ml e).sz → B'.length = (el C.P ml e).sz → elemAt (A ++ B ++ Z) (el C.P ml e).sz i = elemAt (A ++ B' ++ Z) (el C.P ml e).sz i := by
                  intro A B B' Z hA hB hB'
                  unfold elemAt
                  apply List.ext_getElem?
                  intro k'
                  rw [List.getElem?_take, List.getElem?_take]
                  split
                  · rename_i hk'
                    rw [List.getElem?_drop, List.getElem?_drop]
                    rcases Nat.lt_or_gt_of_ne hij with hij | hij
                    · have : (i + 1) * (el C.P ml e).sz ≤ j * (el C.P ml e).sz := Nat.mul_le_mul_right _ hij
                      rw [Nat.succ_mul] at this
                      rw [List.append_assoc, List.append_assoc, List.getElem?_append_left (by omega), List.getElem?_append_left (by omega)]
                    · have : (j + 1) * (el C.P ml e).sz ≤ i * (el C.P ml e).sz := Nat.mul_le_mul_right _ hij
                      rw [Nat.succ_mul] at this
                      rw [List.getElem?_append_right (by simp; omega), List.getElem?_append_right (by simp; omega)]
                      simp [hA, hB, hB']
                  · rfl
                rw [ha']
                conv => rhs; rw [h0]
                exact main _ _ _ _ htk0 hmid hel
              have hsz' : arr'.size = arr.size := by
                rw [← Array.length_toList, ha', List.length_append, List.length_append, hmid, htk0, List.length_drop, Array.length_toList]; omega
              have hgk : ∀ b', F b' → b' ≠ g := fun b' hb' e => h1.sF k g (hT0 g (hT1 g v2)).1 (e ▸ hb')
              have hSg : S1 k g := (hT0 g (hT1 g v2)).1
              have q1 : R C.P (wrote w g (j * (el C.P ml e).sz + (el C.P ml e).off φ) arr cv) F d cv (setAll σ [] m.sets (vk b)) (S1 (vk b)) :=
                (hRv.coe hcoe).imp (fun b hb => hb) (fun b hb => hb) (fun b' hb' => wrote_other fun e => by
                  subst e
                  rcases hb' with hb' | hb'
                  · exact hgk _ hb' rfl
                  · exact hne (h1.dj _ _ _ hSg hb'))
              have q2 := wand3 (w' := wrote w g (j * (el C.P ml e).sz + (el C.P ml e).off φ) arr cv) (F' := F) (fun b hb => hb) (fun b' hb' => wrote_other fun e => by
                  subst e
                  rcases hb' with hb' | hb'
                  · exact hgk _ hb' rfl
                  · exact w5 hb'.1) q1 (fun b' hb' hb'' => (hne (h1.dj _ _ _ (hT0 b' (hT1 b' (w4 b' hb''))).1 hb')).elim)
              rw [SD.put_get φ u6] at q2
              have q3 := wand2 (w' := wrote w g (j * (el C.P ml e).sz + (el C.P ml e).off φ) arr cv) (F' := F) (fun b hb => hb) (fun b' hb' => wrote_other fun e => by
                  subst e
                  rcases hb' with hb' | hb'
                  · exact hgk _ hb' rfl
                  · exact hb'.2.2 rfl) hwr hsz' hoth (by rw [hself]; exact q2) (fun b' hb' hb'' => by
                    rcases hb' with hb' | hb'
                    · exact hb'.1
                    · exact (hne (h1.dj _ _ _ (hT0 b' (hT1 b' hb'')).1 hb')).elim)
              have q4 := wand (w' := wrote w g (j * (el C.P ml e).sz + (el C.P ml e).off φ) arr cv) (F' := F) (fun b hb => hb) (fun b' hb' => wrote_other fun e => by
                  subst e
                  rcases hb' with hb' | hb'
                  · exact hgk _ hb' rfl
                  · exact hb'.2 v2) q3 (fun b' hb' hb'' => by
                    rcases hb' with hb' | hb' | hb'
                    · exact hb'.1
                    · exact w4 b' hb'.1
                    · exact (hne (h1.dj _ _ _ (hT0 b' hb'').1 hb')).elim)
              rw [SD.put_get π u1, ← ecs] at q4
              have e9 : setAll (preRun [m] σ) [] [(k, putPX k ⟨π, some φ⟩ (.k (tk q)) (.k (vk b)))] = updF (setAll σ [] m.sets) k (((setAll σ [] m.sets) k).put π (.list (ps.set j ((ps.getD j .unit).put φ ((setAll σ [] m.sets) (vk b)))))) := by
                rw [setAll_one]
                show updF (setAll σ [] m.sets) k _ = _
                congr 1
                simp only [putPX, PX.eval]
                show PV.put (setAll σ [] m.sets k) π (.list (((setAll σ [] m.sets k).get π).toList.set (setAll σ [] m.sets (tk q)).toInt.toNat (PV.put ((((setAll σ [] m.sets k).get π).toList).getD (setAll σ [] m.sets (tk q)).toInt.toNat .unit) φ (setAll σ [] m.sets (vk b))))) = _
                rw [hps, hj]
                rfl
              show Rel C (Rsc.ap (apm Γ m) [(k, apm Γ m k), (vk b, .none)] [] [k]) _ _ _
              rw [e9]
              have hlk : base = some (loc k) → loc k ≠ g := fun hb e => (hT0 g (hT1 g v2)).2 _ hb e.symm
              refine ⟨_, _, _, _, h1.reroot (w' := wrote w g (j * (el C.P ml e).sz + (el C.P ml e).off φ) arr cv) (vk_mod b) hne (g := apm Γ m k) (so := [k]) (.inr ⟨rfl, rfl, fun hbx _ => wrote_other ?_⟩) (fun b' _ hs _ => wrote_other (fun e => hs (e ▸ hSg))) rfl rfl rfl (by simp [wrote, World.setRow]) ?_⟩
              · rcases r1 with ⟨a1, _, _⟩ | ⟨ty, arr0, a1, _, _, _, a5⟩
                · rw [a1] at hbx; cases hbx
                · exact hlk a5
              · have hfin : ∀ b', ((T0 b' ∧ ¬T1 b') ∨ ((T1 b' ∧ ¬T2 b') ∨ ((T2 b' ∧ ¬T3 b') ∨ S1 (vk b) b'))) → S1 k b' ∨ S1 (vk b) b' := by
                  intro b' hb'
                  rcases hb' with hb' | hb' | hb' | hb'
                  · exact .inl (hT0 b' hb'.1).1
                  · exact .inl (hT0 b' (hT1 b' hb'.1)).1
                  · exact .inl (hT0 b' (hT1 b' (w4 b' hb'.1))).1
                  · exact .inr hb'
                rcases r1 with ⟨a1, a2, a3⟩ | ⟨ty, arr0, a1, a2, a3, a4, a5⟩
                · rw [a1]
                  exact ⟨cs, a2, by rw [updF_same]; exact q4.wide (fun b' hb' => by simp only [if_true]; exact hfin b' hb')⟩
                · rw [a1]
                  refine ⟨arr0, _, by rw [wrote_other (hlk a5)]; exact a2, by simp only [if_true]; exact .inl a3, fun b' hb' => ⟨by simp only [if_true]; exact hfin b' hb', fun e => ?_⟩, by rw [updF_same, ← a4]; exact q4⟩
                  subst e
                  rcases hb' with hb' | hb' | hb' | hb'
                  · exact (hT0 _ hb'.1).2 _ a5 rfl
                  · exact (hT0 _ (hT1 _ hb'.1)).2 _ a5 rfl
                  · exact (hT0 _ (hT1 _ (w4 _ hb'.1))).2 _ a5 rfl
                  · exact hne (h1.dj _ _ _ a3 hb')
          · cases hc
    · cases hc
  · cases hc
theorem cStoreE_ok {t : TypeId} {ap ax : Operand} (h : RelX C Γ σ val loc S F a.tmps w) (hdst : o.dst = none) (hop : o.op = .store t ap ax)
    (hc : cStoreE C.P Γ t ap ax = some r) (hrun : r.run I σ = some σ') (hK : Cont C (apS Γ r) σ' a K) : o.wp C.P a w K Q := by
  unfold cStoreE at hc
  split at hc
  · rename_i p q
    split at hc
    · rename_i k π k' π' hΓq hΓp
      split at hc
      · rename_i hcond
        simp only [Bool.and_eq_true, Bool.not_eq_true', beq_iff, beq_false, decide_eq_true_eq] at hcond
        obtain ⟨⟨⟨rfl, rfl⟩, hne⟩, hpo⟩ := hcond
        have hne : k ≠ tk q := hne
        split at hc
        · rename_i e m hsh
          split at hc
          · rename_i hty
            simp only [Option.some.injEq] at hc
            subst hc
            obtain ⟨hchk, rfl⟩ := sr_run hrun
            have hq := h.ok (tk q)
            have hp := h.ok (tk p)
            rw [hΓq] at hq
            rw [hΓp] at hp
            obtain ⟨d, cs, base, e1, y1, A, n, cap, ad, ki, pj, qs, r1, r2, r3, r4, r5, r6⟩ := hq
            obtain ⟨⟨d', cs', base', x', c', g', off', s1, s2, s3⟩, _⟩ := hp
            obtain ⟨rfl, rfl, rfl⟩ := s1.eq r1
            cases π with
            | mk π post =>
            cases post with
            | none => cases hpo
            | some φ =>
            have h2 : ((PX.cmp BinOp.eql (.k (tk p)) (.get (.k (tk q)) [0])).eval σ []).toBool = true := List.all_eq_true.1 hchk _ (by simp)
            simp only [PX.eval, r4] at h2
            have hjj : (σ (tk p)).toInt = pj.toInt := by simpa [PV.get, PV.fld, PV.toAgg, cmpI, eqI, PV.toBool] using h2
            rw [hjj] at s2
            have hx : (d'.get π).bind (fun z => match z with | .own e m => (el C.P m e).get φ | _ => none) = some (.own e m) := by
              unfold shapeAt at hsh
              rw [r1.sd] at hsh
              simp only at hsh
              cases hz : d'.get π with
              | none => rw [hz] at hsh; cases hsh
              | some z => rw [hz] at hsh; cases z <;> first | exact hsh | cases hsh
            generalize hj : pj.toInt.toNat = j at r2 s2
            unfold Sub at r2 s2
            obtain ⟨e2, m2, g, n2, cap2, arr, u1, u2, u3, u4, u5, u6, u7, u8⟩ := r2
            obtain ⟨e3, m3, g3, n3, cap3, arr3, v1, v2, v3, v4, v5, v6, v7, v8⟩ := s2
            rw [u1] at v1
            simp only [Option.some.injEq, SD.own.injEq] at v1
            obtain ⟨rfl, rfl⟩ := v1
            rw [u2] at v2
            simp only [List.cons.injEq, Value.slice.injEq, Option.some.injEq, Addr.mk.injEq, and_true] at v2
            obtain ⟨rfl, rfl, rfl⟩ := v2
            simp only [Option.some.injEq, Prod.mk.injEq] at v8
            obtain ⟨e8, e8'⟩ := v8
            rw [e8, e8'] at s3
            rw [u1] at hx
            simp only [Option.bind_some] at hx
            rw [u6] at hx
            simp only [Option.some.injEq, SD.own.injEq] at hx
            obtain ⟨rfl, rfl⟩ := hx
            obtain ⟨T0, hR, hT0⟩ := h.rootR r1
            obtain ⟨ps, T3, hps, hpl, hR3, hT3, hg0, hg3, hfit, _, wand⟩ := R.atElem hR u1 u2 u3 u5 u6
            simp only [SD.sz] at hR3 hfit u7
            rw [← u7] at hR3
            have hAT : ∀ b, A = some ⟨b, 0, none⟩ → T3 b := by
              intro b hb
              subst hb
              generalize (ps.getD j .unit).get φ = z at hR3
              cases hR3 with
              | own _ _ _ _ _ _ _ _ _ _ _ _ _ _ _ f7 => exact f7
            have hone : ∀ u ∈ [val (tk q)], u.oneCell' = true := r6.oneCell (by rfl)
            have hcell : (val (tk q)).cells.toList = [val (tk q)] := Fits.cells_eq (.inr ⟨rfl, rfl⟩) r6 rfl
            have hSk : S k g := (hT0 g hg0).1
            have hst := run_storeAt (P := C.P) (w := w) (t := t) (v := val (tk q)) (o := j * (el C.P m2 e2).sz + (el C.P m2 e2).off φ) u5 hty hcell rfl (by simpa using hfit) hone
            have hevp : a.eval (.tmp p) = .pointer (some ⟨g, j * (el C.P m2 e2).sz + (el C.P m2 e2).off φ, none⟩) := by
              rw [← s3]; exact (h.tm p).symm
            have hevq : a.eval (.tmp q) = val (tk q) := (h.tm q).symm
            refine upon_skip0 hdst (w' := wrote w g (j * (el C.P m2 e2).sz + (el C.P m2 e2).off φ) arr [val (tk q)]) (by simp [execOp, hop, hevp, hevq, hst]) (hK _ _ ?_ rfl)
            have hgF : ∀ b', F b' → b' ≠ g := fun b' hb' e => h.sF k g hSk (e ▸ hb')
            have q6 := r6.imp (w' := wrote w g (j * (el C.P m2 e2).sz + (el C.P m2 e2).off φ) arr [val (tk q)]) (fun b hb => hb) (fun b hb => hb) (fun b' hb' => wrote_other fun e => by
              subst e
              rcases hb' with hb' | hb' | hb'
              · exact hgF _ hb' rfl
              · exact hne (h.dj _ _ _ hSk hb')
              · exact hg3 (hAT _ hb'))
            have q4 := wand (w' := wrote w g (j * (el C.P m2 e2).sz + (el C.P m2 e2).off φ) arr [val (tk q)]) (fun b' hb' => wrote_other fun e => by
              subst e
              rcases hb' with hb' | hb'
              · exact hgF _ hb' rfl
              · exact hb'.2.2 rfl) (wrote_self u5) q6 (fun b' hb' hb'' => by
              rcases hb' with hb' | hb'
              · exact (hne (h.dj _ _ _ (hT0 b' hb'').1 hb')).elim
              · exact hAT _ hb')
            have e9 : setAll σ [] [(k, putPX k ⟨π, some φ⟩ (.k (tk p)) (.get (.k (tk q)) [1]))] = updF σ k ((σ k).put π (.list (ps.set j ((ps.getD j .unit).put φ (.list qs))))) := by
              rw [setAll_one]
              congr 1
              simp only [putPX, PX.eval]
              show PV.put (σ k) π (.list (((σ k).get π).toList.set (σ (tk p)).toInt.toNat (PV.put ((((σ k).get π).toList).getD (σ (tk p)).toInt.toNat .unit) φ ((σ (tk q)).get [1])))) = _
              rw [hps, hjj, hj, r4]
              rfl
            show Rel C (Rsc.ap Γ [(k, Γ k), (tk q, .none)] [] [k]) (setAll σ [] [(k, putPX k ⟨π, some φ⟩ (.k (tk p)) (.get (.k (tk q)) [1]))]) _ _
            rw [e9]
            have hlk : base' = some (loc k) → loc k ≠ g := fun hb e => (hT0 g hg0).2 _ hb e.symm
            have hfin : ∀ b', ((T0 b' ∧ ¬T3 b') ∨ (S (tk q) b' ∨ A = some ⟨b', 0, none⟩)) → S k b' ∨ S (tk q) b' := by
              intro b' hb'
              rcases hb' with hb' | hb' | hb'
              · exact .inl (hT0 b' hb'.1).1
              · exact .inr hb'
              · exact .inl (r5 _ hb')
            refine ⟨_, _, _, _, h.reroot' (w' := wrote w g (j * (el C.P m2 e2).sz + (el C.P m2 e2).off φ) arr [val (tk q)]) hne (g := Γ k) (so := [k]) (.inr ⟨rfl, rfl, fun hbx _ => wrote_other ?_⟩) (fun b' _ hs _ => wrote_other (fun e => hs (e ▸ hSk))) rfl rfl rfl (by simp [wrote, World.setRow]) ?_⟩
            · rcases r1 with ⟨a1, _, _⟩ | ⟨ty, arr0, a1, _, _, _, a5⟩
              · rw [a1] at hbx; cases hbx
              · exact hlk a5
            · rcases r1 with ⟨a1, a2, a3⟩ | ⟨ty, arr0, a1, a2, a3, a4, a5⟩
              · rw [a1]
                exact ⟨cs', a2, by rw [updF_same]; exact q4.wide (fun b' hb' => by simp only [if_true]; exact hfin b' hb')⟩
              · rw [a1]
                refine ⟨arr0, _, by rw [wrote_other (hlk a5)]; exact a2, by simp only [if_true]; exact .inl a3, fun b' hb' => ⟨by simp only [if_true]; exact hfin b' hb', fun e => ?_⟩, by rw [updF_same, ← a4]; exact q4⟩
                subst e
                rcases hb' with hb' | hb' | hb'
                · exact (hT0 _ hb'.1).2 _ a5 rfl
                · exact hne (h.dj _ _ _ a3 hb')
                · exact (hT0 _ (hT3 _ (hAT _ hb'))).2 _ a5 rfl
          · cases hc
        · cases hc
      · cases hc
    · cases hc
  · cases hc
end
end
end Go.Rsc
