/- Structs that are built: the operation. No conditions. -/
import Derived.Test.YtdkfgnnebaahaaaRscQ
import Derived.Laws.Tables
namespace Go.Rsc
open Go.RowKit
set_option linter.unusedVariables false
set_option linter.unusedSimpArgs false

section
variable {P : Program} {w w' : World} {F F' : Set} {Γ : Nat → D} {σ : Nat → PV} {val : Nat → Value} {loc : Nat → Nat} {S : Nat → Set} {C : Cx} {tmps : Array Value}
variable {d d' x y : SD} {cs c : List Value} {p q : PV} {T T' : Set}
variable {a : Act} {o : Oper} {K : Act → World → Prop} {Q : Exit → Act → World → Prop} {dst : Nat} {v : Value} {I : Interp} {σ' : Nat → PV} {r : SR}

theorem distinct_iff : ∀ (l : List Nat), distinct l = true → l.Nodup
  | [], _ => List.nodup_nil
  | k :: ks, h => by
    simp only [distinct, Bool.and_eq_true, Bool.not_eq_true'] at h
    exact List.nodup_cons.2 ⟨fun hk => by rw [any_beq.2 hk] at h; simp at h, distinct_iff ks h.2⟩

theorem cBuildGo_agg {b : Nat} {z : List Value} {parts : List Nat} {ds : List SD} : ∀ (fs : List Field) (i off : Nat) {d : SD} {px : PX}, cBuildGo b P z parts ds fs i off = some (d, px) → d.isAgg = true
  | [], i, off, d, px, h => by
    simp only [cBuildGo, Option.some.injEq, Prod.mk.injEq] at h
    rw [← h.1]; rfl
  | f :: fs, i, off, d, px, h => by
    simp only [cBuildGo] at h
    have rest : ∀ (d0 : SD) (x0 : PX), (if (Nat.beq f.offset off && Nat.beq (P.cellsOf f.type) d0.sz && tyOk P f.type d0) = true then (cBuildGo b P z parts ds fs (i + 1) (off + d0.sz)).map fun (y, ys) => (SD.sc d0 y, PX.acons x0 ys) else none) = some (d, px) → d.isAgg = true := by
      intro d0 x0 h
      split at h
      · obtain ⟨⟨y, ys⟩, _, e⟩ := Option.map_eq_some_iff.1 h
        simp only [Prod.mk.injEq] at e
        rw [← e.1]; rfl
      · cases h
    split at h
    · split at h
      · split at h
        · cases h
        · exact rest _ _ h
      · cases h
    · split at h
      · exact rest _ _ h
      · cases h

theorem cBuild_ok {b : Nat} {t : TypeId} {parts : Array (Nat × Operand)} (h : RelX C Γ σ val loc S F a.tmps w) (ht : dst < C.nt) (hdst : o.dst = some dst) (hop : o.op = .build t parts)
    (hc : cBuild b C.P Γ dst t parts = some r) (hrun : r.run I σ = some σ') (hK : Cont C (apS Γ r) σ' a K) : o.wp C.P a w K Q := by
  unfold cBuild at hc
  split at hc
  · rename_i fs z hu hz
    split at hc
    · rename_i ds ms htk
      split at hc
      · rename_i d px hgo
        split at hc
        · rename_i hcond
          simp only [Bool.and_eq_true, beq_iff] at hcond
          obtain ⟨⟨⟨hzs, hdist⟩, hall⟩, hkept⟩ := hcond
          simp only [Option.some.injEq] at hc
          subst hc
          obtain ⟨_, rfl⟩ := sr_run (chk := []) hrun
          obtain ⟨val', S', h1, hlen, hval, _⟩ := takes_ok _ b h htk
          obtain ⟨it, hit, hzero⟩ := Option.bind_eq_some_iff.1 hz
          -- the parts' cells
          have part : ∀ j d, ds[j]? = some d → hasDead d = false → ∃ x, (parts.toList.map (·.2))[j]? = some x ∧ (evalOp a.tmps x).cells.toList.length = d.sz ∧ R C.P w F d (evalOp a.tmps x).cells.toList (preRun ms σ (vk (b + j))) (S' (vk (b + j))) := by
            intro j d hjd hdd
            have hk := kept_ok ds b 0 hkept j _ hjd
            rw [Nat.add_zero] at hk
            have hok := h1.ok (vk (b + j))
            rw [hk] at hok
            obtain ⟨csj, hf, hR⟩ := hok
            have hj : j < (parts.toList.map (·.2)).length := by rw [← hlen]; exact (List.getElem?_eq_some_iff.1 hjd).1
            refine ⟨_, List.getElem?_eq_getElem hj, ?_⟩
            rw [hval j _ (List.getElem?_eq_getElem hj)] at hf
            rw [hf.cells_eq hR hdd]
            exact ⟨hR.len, hR⟩
          generalize hpv : parts.toList.map (fun x => (x.1, evalOp a.tmps x.2)) = pv
          have hkeys : pv.map (·.1) = parts.toList.map (·.1) := by rw [← hpv, List.map_map]; rfl
          have hpvj : ∀ (j : Nat) (x : Operand), (parts.toList.map (·.2))[j]? = some x → ∃ i : Nat, (parts.toList.map (·.1))[j]? = some i ∧ pv[j]? = some (i, evalOp a.tmps x) := by
            intro j x hx
            rw [List.getElem?_map] at hx
            obtain ⟨y, hy, rfl⟩ := Option.map_eq_some_iff.1 hx
            exact ⟨y.1, by rw [List.getElem?_map, hy]; rfl, by rw [← hpv, List.getElem?_map, hy]; rfl⟩
          -- sizes first, for any filling
          obtain ⟨ss, s1, s2, s3, s4, _⟩ := cBuildGo_ok (P := C.P) (w := w) (F := F) (σ := preRun ms σ) (z := z.cells.toList) (G := fun i => match (parts.toList.map (·.1)).findIdx? (Nat.beq i) with
            | some j => ((pv.map (fun x => x.2.cells.toList))[j]?).getD []
            | none => []) (S := S') h1.dj (fun i j d hij hjd hdd => by
              obtain ⟨x, hx, _, hR⟩ := part j d hjd hdd
              obtain ⟨i', _, e2⟩ := hpvj j x hx
              simp only [hij]
              rw [List.getElem?_map, e2]
              exact hR) fs.toList 0 0 hgo
          generalize hg0 : (fun i => (z.cells.toList.drop ((ss.take i).sum)).take ((ss[i]?).getD 0)) = g0
          have hg0l : ∀ j s, ss[j]? = some s → (g0 j).length = s := by
            intro j s hs
            rw [← hg0]
            simp only [hs, Option.getD_some, List.length_take, List.length_drop, Array.length_toList, hzs, ← s3]
            have : (ss.take j).sum + s ≤ ss.sum := by
              obtain ⟨hlt, e⟩ := List.getElem?_eq_some_iff.1 hs
              conv => rhs; rw [← List.take_append_drop j ss, List.drop_eq_getElem_cons hlt]
              rw [e]
              simp
            omega
          have hflat0 : z.cells.toList = flat g0 0 ss.length := by
            have : ∀ (n i : Nat) (l : List Value), i + n = ss.length → l = z.cells.toList.drop ((ss.take i).sum) → l.length = (ss.drop i).sum → l = flat g0 i n := by
              intro n
              induction n with
              | zero =>
                intro i l hi hl hs
                rw [List.drop_of_length_le (by omega)] at hs
                exact List.eq_nil_of_length_eq_zero hs
              | succ n ih =>
                intro i l hi hl hs
                have hlt : i < ss.length := by omega
                have hsi := List.getElem?_eq_getElem hlt
                simp only [flat]
                have e1 : g0 i = l.take ss[i] := by rw [← hg0, hl]; simp [hsi]
                have ts : (ss.take (i + 1)).sum = (ss.take i).sum + ss[i] := by rw [List.take_add_one, hsi, List.sum_append]; simp only [Option.toList_some, List.sum_cons, List.sum_nil, Nat.add_zero]
                have tds : (ss.drop i).sum = ss[i] + (ss.drop (i + 1)).sum := by rw [List.drop_eq_getElem_cons hlt, List.sum_cons]
                have e2 := ih (i + 1) (l.drop ss[i]) (by omega) (by rw [hl, List.drop_drop, ts]) (by rw [List.length_drop, hs, tds]; omega)
                rw [e1, ← e2, List.take_append_drop]
            exact this ss.length 0 _ (by omega) (by simp) (by rw [Array.length_toList, hzs, ← s3]; simp)
          have hnd := distinct_iff _ hdist
          have hidx : ∀ j i, (parts.toList.map (·.1))[j]? = some i → (parts.toList.map (·.1)).findIdx? (Nat.beq i) = some j := by
            intro j i hj
            obtain ⟨hlt, e⟩ := List.getElem?_eq_some_iff.1 hj
            refine List.findIdx?_eq_some_iff_getElem.2 ⟨hlt, beq_iff.2 e.symm, fun k hk => ?_⟩
            intro hb
            have e2 := beq_iff.1 hb
            have : k = j := (List.getElem_inj (i := k) (j := j) hnd).1 (by rw [← e2, e])
            omega
          have hps : ∀ i v, (i, v) ∈ pv → ss[i]? = some v.cells.size := by
            intro i v hv
            obtain ⟨j, hj⟩ := List.getElem?_of_mem hv
            have hk : (parts.toList.map (·.1))[j]? = some i := by rw [← hkeys, List.getElem?_map, hj]; rfl
            have hlt : i < ss.length := by
              have := List.all_eq_true.1 hall i (List.mem_of_getElem? hk)
              rw [s1, Array.length_toList]
              exact Nat.lt_of_lt_of_eq (Nat.le_of_ble_eq_true this) rfl
            obtain ⟨d', q1, q2, q3⟩ := s4 i j _ (by rw [Nat.zero_add]; exact hidx j i hk) (List.getElem?_eq_getElem hlt)
            obtain ⟨x, hx, hl, _⟩ := part j d' q1 q3
            obtain ⟨i', e1, e2⟩ := hpvj j x hx
            rw [hj] at e2
            simp only [Option.some.injEq, Prod.mk.injEq] at e2
            rw [List.getElem?_eq_getElem hlt, ← q2, ← hl, ← e2.2, Array.length_toList]
          obtain ⟨cells, hfill, hcl⟩ := fill_fields (ss := ss) pv g0 z.cells hps hg0l hflat0
          have hkd : distinct (pv.map (·.1)) = true := by rw [hkeys]; exact hdist
          obtain ⟨ss', s1', s2', s3', s4', s5'⟩ := cBuildGo_ok (P := C.P) (w := w) (F := F) (σ := preRun ms σ) (z := z.cells.toList) (G := final g0 pv) (S := S') h1.dj (fun i j d hij hjd hdd => by
              obtain ⟨x, hx, _, hR⟩ := part j d hjd hdd
              obtain ⟨i', e1, e2⟩ := hpvj j x hx
              have hi : i' = i := by
                obtain ⟨l1, l2, _⟩ := List.findIdx?_eq_some_iff_getElem.1 hij
                have := beq_iff.1 l2
                rw [List.getElem?_eq_getElem l1] at e1
                simp only [Option.some.injEq] at e1
                omega
              subst hi
              rw [final_at pv g0 i' j _ hkd e2]
              exact hR) fs.toList 0 0 hgo
          have hss : ss' = ss := by
            rw [s2] at s2'
            simp only [Option.some.injEq] at s2'
            have : ∀ (l l' : List Nat) (o : Nat), offs l o = offs l' o → l = l' := by
              intro l
              induction l with
              | nil => intro l' o e; cases l' with | nil => rfl | cons => simp [offs] at e
              | cons a l ih =>
                intro l' o e
                cases l' with
                | nil => simp [offs] at e
                | cons b l' =>
                  simp only [offs, List.cons.injEq, Prod.mk.injEq] at e
                  obtain ⟨⟨_, rfl⟩, e⟩ := e
                  rw [ih l' _ e]
            exact (this _ _ _ s2').symm
          subst hss
          obtain ⟨ps, e1, hR⟩ := s5' (fun k s hs hn => by
            rw [Nat.zero_add, Nat.zero_add] at *
            have : k ∉ pv.map (·.1) := by
              rw [hkeys]
              intro hk
              obtain ⟨j, hj⟩ := List.getElem?_of_mem hk
              rw [hidx j k hj] at hn
              cases hn
            rw [final_notin pv g0 k this, ← hg0]
            simp only [hs, Option.getD_some])
          rw [← s1', ← hcl] at hR
          have hbuilt : C.P.built t (parts.map fun (x : Nat × Operand) => (x.1, a.eval x.2)).toList = some cells := by
            have : (parts.map fun (x : Nat × Operand) => (x.1, a.eval x.2)).toList = pv := by
              rw [← hpv, Array.toList_map]
              apply List.map_congr_left
              intro x _
              rw [evalOp_eq]
            rw [this]
            unfold Program.built
            simp only [hit, hu, hzero, s2']
            exact hfill
          have hr : (execOp a.eval o).run C.P w = .ok (.value (.agg cells)) w := by
            have := run_build (P := C.P) w t _ cells hbuilt
            simp only [execOp, hop, Sem.run_bind, this, Result.andThen_ok]
            rfl
          have hks : ∀ k ∈ (List.range ds.length).map (fun i => vk (b + i)), k % 64 = 63 := by
            intro k hk
            obtain ⟨i, _, rfl⟩ := List.mem_map.1 hk
            exact vk_mod _
          refine wp_val hdst hr (hK _ _ ?_ rfl)
          show Rel C (ap (ms.foldl apm Γ) ((tk dst, D.v d) :: drops b ds.length) [tk dst] []) (setAll (preRun ms σ) [] [(tk dst, px)]) _ _
          rw [setAll_one, e1, drops_eq]
          refine ⟨_, _, _, _, h1.make (w' := w) ht hks (T := fun b' => ∃ k j, 0 ≤ k ∧ (parts.toList.map (·.1)).findIdx? (Nat.beq k) = some j ∧ S' (vk (b + j)) b') (fun b' hb' => ?_) (fun b' hb' _ => rfl) rfl rfl rfl (Nat.le_refl _) ⟨_, .inl ⟨cBuildGo_agg _ _ _ hgo, rfl⟩, ?_⟩⟩
          · obtain ⟨k, j, _, hj, hb'⟩ := hb'
            refine .inl ⟨vk (b + j), List.mem_map.2 ⟨j, ?_, rfl⟩, hb'⟩
            obtain ⟨l1, _, _⟩ := List.findIdx?_eq_some_iff_getElem.1 hj
            rw [List.mem_range, hlen]
            simpa using l1
          · simpa using hR
        · cases hc
      · cases hc
    · cases hc
  · cases hc
end
end Go.Rsc
