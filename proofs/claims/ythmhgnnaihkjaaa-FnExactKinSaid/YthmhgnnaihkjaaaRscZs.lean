/- slices.Compact and slices.DeleteFunc (of numbers below 0) at whole numbers, by their contracts. No conditions. -/
import Derived.Test.YthmhgnnaihkjaaaRscZr
import Derived.Shelf.Slices.CompactI
import Derived.Shelf.SlicesE.DeleteFunc
namespace Go.Rsc
open Go.RowKit Go.Shelf Go.Proofs
set_option linter.unusedVariables false
set_option linter.unusedSimpArgs false

section
variable {P : Program} {ρ : Ren}

theorem compact_run {l : PV} {os : List PV} (h : Orc.compact.run [l] = some os) : l.toList.length ≤ 140737488355328 ∧ os = [.list (cptL l.toList)] := by
  change (if Nat.ble l.toList.length 140737488355328 = true then some [PV.list (cptL l.toList)] else none) = some os at h
  split at h
  · rename_i hc
    exact ⟨Nat.le_of_ble_eq_true hc, by simpa using h.symm⟩
  · cases h
theorem delneg_run {l : PV} {os : List PV} (h : Orc.delneg.run [l] = some os) : l.toList.length ≤ 140737488355328 ∧ os = [.list (posL l.toList)] := by
  change (if Nat.ble l.toList.length 140737488355328 = true then some [PV.list (posL l.toList)] else none) = some os at h
  split at h
  · rename_i hc
    exact ⟨Nat.le_of_ble_eq_true hc, by simpa using h.symm⟩
  · cases h
def compactSig (e : TypeId) : Sig := { ps := [.mv (.own e false)], rs := [.v (.own e false)], orc := some .compact }
def delnegSig (e : TypeId) (g : FuncId) : Sig := { ps := [.mv (.own e false), .clo g []], rs := [.v (.own e false)], orc := some .delneg }

/-- A row of whole numbers with other numbers put at its head: the slice that is cut to these. -/
theorem put_own {w : World} {F T0 : Set} {e : TypeId} (hel : el P false e = .int .i64) {b c : Nat} {arr : Array Value} {zs ts : List Int} {k : Nat} (hb : w.heap[b]? = some (.cells arr e (0, 0))) (h1 : zs.length ≤ c) (h2 : c ≤ maxLen) (h4 : arr.size = c) (hT : T0 b) (hts : ts.length ≤ zs.length) :
    Ext w T0 (Sort.putRow (Value.int .i64) (Sort.ahead w k) b 0 (ts ++ List.replicate (zs.length - ts.length) 0).toArray) ∧ R P (Sort.putRow (Value.int .i64) (Sort.ahead w k) b 0 (ts ++ List.replicate (zs.length - ts.length) 0).toArray) F (.own e false) [.slice (some ⟨b, 0, none⟩) ts.length c] (.list (ts.map PV.int)) T0 := by
  have hg := grownBy_sortedI (w := w) (g := b) (n := k) (os := #[]) (ts ++ List.replicate (zs.length - ts.length) 0).toArray
  have hp := heap_sortedI (n := k) (os := #[]) (ts ++ List.replicate (zs.length - ts.length) 0).toArray hb
  rw [Sort.grow_empty] at hg hp
  have hlen : (ts ++ List.replicate (zs.length - ts.length) (0 : Int)).length = zs.length := by simp; omega
  have htk := take_putCellsI arr (ts ++ List.replicate (zs.length - ts.length) 0) (by rw [hlen]; omega)
  rw [hlen] at htk
  refine ⟨⟨hg.os, hg.tape, hg.output, hg.size, fun k hk hne => hg.block k hk fun e => hne (by cases e; exact hT)⟩, ?_⟩
  refine .own e false b _ c _ _ _ (fun _ => Set.none) hp (by omega) h2 (by rw [hel]; simp [SD.sz, Go.Sort.putCells, h4]) (by simp) (by rw [hel]; simp [SD.sz]) hT (fun _ _ h => h.elim) (fun _ _ h => h.elim) (fun _ _ _ h => h.elim) (fun j p hp => ?_)
  rw [hel]
  rw [List.getElem?_map] at hp
  obtain ⟨x, hx, rfl⟩ := Option.map_eq_some_iff.1 hp
  have hj : j < ts.length := (List.getElem?_eq_some_iff.1 hx).1
  have h0 : ((Go.Sort.putCells (Value.int .i64) 0 (ts ++ List.replicate (zs.length - ts.length) 0).toArray arr).toList.take zs.length)[j]? = some (.int .i64 x) := by
    rw [htk, List.map_append, List.getElem?_append_left (by simpa using hj), List.getElem?_map, hx]; rfl
  rw [List.getElem?_take, if_pos (by omega)] at h0
  have he2 : elemAt (Go.Sort.putCells (Value.int .i64) 0 (ts ++ List.replicate (zs.length - ts.length) 0).toArray arr).toList 1 j = [.int .i64 x] := by
    unfold elemAt
    rw [Nat.mul_one]
    obtain ⟨hl, hy⟩ := List.getElem?_eq_some_iff.1 h0
    rw [List.drop_eq_getElem_cons hl, hy]
    rfl
  show R P _ F (.int .i64) (elemAt _ 1 j) _ _
  rw [he2]
  exact .int ..
theorem cpt_len (zs : List Int) : (Lib.compact zs).length ≤ zs.length := by
  unfold Lib.compact Lib.compactUpTo
  rw [List.length_map]
  exact Nat.le_trans (List.length_filter_le _ _) (by simp)
theorem int_map (zs : List Int) : (zs.map PV.int).map PV.toInt = zs := by rw [List.map_map]; exact List.map_id _

theorem compact_good (L : Lays2.n20 P ρ) {e : TypeId} (he : P.underlying e = some (.int .i64)) {az os : List PV} (h : Orc.compact.run az = some os) : Ctr P (compactSig e) (ρ.f 20) az os := by
  intro w F V Y T cin hargs
  have hargs : az = [Y 0] := hargs
  subst hargs
  have hel : el P false e = .int .i64 := by
    unfold el sdT
    rw [he]
  obtain ⟨hn, rfl⟩ := compact_run h
  obtain ⟨cs0, hfit0, hR0⟩ := cin.arg 0 (.mv (.own e false)) (by simp [compactSig, flatP])
  have hV0 : cs0 = [V 0] := by
    rcases hfit0 with ⟨h1, _⟩ | ⟨_, h2⟩
    · cases h1
    · exact h2
  subst hV0
  have hsz := cin.sz 0
  have main : Calls P (ρ.f 20) #[V 0] w fun ex w' => ∃ v, ex = .returned v ∧ Ext w (T 0) w' ∧ Fits (.own e false) v [v] ∧ R P w' F (.own e false) [v] (.list (cptL (Y 0).toList)) (T 0) := by
    generalize hv : V 0 = v at hR0
    generalize Y 0 = y at hR0 hn
    generalize T 0 = T0 at hR0 hsz
    cases hR0 with
    | onil => exact (Any.slices_Compact_int_empty L none 0 w).mono fun ex w' ⟨he, hw⟩ => ⟨_, he, hw ▸ Ext.refl _ _, .inr ⟨rfl, rfl⟩, .onil ..⟩
    | own _ _ b n c arr ps _ Ss h1 h2 h3 h4 h5 h6 h7 h8 h9 h10 h11 =>
      rw [hel] at h4 h11
      simp only [SD.sz, Nat.mul_one] at h4
      obtain ⟨hp, ht⟩ := ints_of (P := P) (arr := arr) h11
      generalize hz : ps.map PV.toInt = zs at hp ht
      subst hp
      have hl : zs.length = n := by simpa using h5
      subst hl
      have hH := holds_of_blockI h1 ht
      have hcall := Any.slices_Compact_int L b 0 c zs w hH (by simp [PV.toList] at hn; omega) h2
      refine hcall.mono fun ex w' ⟨he, k, hw⟩ => ?_
      subst hw
      obtain ⟨g1, g2⟩ := put_own (P := P) (F := F) (T0 := T0) hel (k := k) h1 h2 h3 h4 h7 (cpt_len zs)
      refine ⟨_, he, g1, .inr ⟨rfl, rfl⟩, ?_⟩
      have : cptL (PV.list (zs.map PV.int)).toList = (Lib.compact zs).map PV.int := by simp only [cptL, PV.toList, int_map]
      rw [this]
      exact g2
  show Calls P (ρ.f 20) #[V 0] w _
  refine main.mono fun e' w' ⟨v, he', hx, hfv, hR'⟩ => ?_
  subst he'
  refine ⟨Y, fun _ => Set.none, [v], [.list (cptL (Y 0).toList)], fun j => if j = 0 then T 0 else Set.none, rfl, ?_, rfl⟩
  refine { lv := rfl, lp := rfl, res := fun j rm hj => ?_, arg := fun m pm hm => ?_, non := fun m hm b hb => hb, dU := fun j j' b hb hb' => ?_, dT := fun m m' b hb => hb.elim, dUT := fun j m b _ hb => hb.elim, nU := fun j b hb => ?_, nT := fun m b hb => hb.elim, ext := ⟨hx.os, hx.tape, hx.output, hx.size, fun b hb hs => hx.block b hb fun h => hs ⟨0, h⟩⟩ }
  · match j with
    | 0 =>
      simp only [compactSig, List.getElem?_cons_zero, Option.some.injEq] at hj
      subst hj
      exact ⟨[v], hfv, hR'⟩
    | j + 1 => simp [compactSig] at hj
  · simp only [compactSig, flatP, List.mem_cons, Prod.mk.injEq, List.not_mem_nil, or_false] at hm
    obtain ⟨rfl, rfl⟩ := hm
    trivial
  · split at hb
    · split at hb'
      · omega
      · exact hb'.elim
    · exact hb.elim
  · split at hb
    · exact ⟨.inl ⟨0, hb⟩, Nat.lt_of_lt_of_le (cin.sz 0 b hb) hx.size⟩
    · exact hb.elim

theorem delete_none (L : SlLaysH.n10 P ρ) (fv : Value) (w : World) : Calls P (ρ.f 10) #[.slice none 0 0, fv] w fun e w' => e = .returned (.slice none 0 0) ∧ ∃ q, w' = w.drewN q := by
  have mixed := L.mixed; have t0 := L.t0; have a0 := L.a0; have z0 := L.z0; have v0 := L.v0; have t3 := L.t3; have a3 := L.a3; have z3 := L.z3; have v3 := L.v3; have t4 := L.t4; have a4 := L.a4; have z4 := L.z4; have v4 := L.v4; have t22 := L.t22; have a22 := L.a22; have z22 := L.z22; have v22 := L.v22; have a23 := L.a23; have z23 := L.z23; have t25 := L.t25; have a25 := L.a25; have z25 := L.z25; have v25 := L.v25
  have e6 : ∀ args w, (callFunc (ρ.f 6) args).run P w = .ok (.enter (ρ.f 6) args) w := L.f6.enters rfl
  have hIF := AnyE.slices_IndexFunc_empty (P := P) (ρ := ρ) { L with } none 0 fv w
  obtain ⟨_, _, FG⟩ := L.f10
  go_enter FG, SlBodyH.n10_ntmps ρ
  go_wp2_with (go_at_fn (ρ.f 6); refine hIF.mono ?_; rintro e w' ⟨rfl, rfl⟩)
  go_ret
  exact ⟨rfl, 0, rfl⟩
theorem delneg_good (L : SlLaysH.n10 P ρ) {e : TypeId} (he : P.underlying e = some (.int .i64)) {g : Nat} (hg4 : g % 4096 = g) (eg : ∀ args w, (callFunc g args).run P w = .ok (.enter g args) w) (v23 : ∀ w, (zeroValue (ρ.t 23)).run P w = .ok (.int .i64 0) w)
    (hneg : ∀ (x : Int) w, Calls P g #[.int .i64 x] w fun e w' => e = .returned (.bool (decide (x < 0))) ∧ ∃ q, w' = w.drewN q) {az os : List PV} (h : Orc.delneg.run az = some os) : Ctr P (delnegSig e g) (ρ.f 10) az os := by
  intro w F V Y T cin hargs
  have hargs : az = [Y 0] := hargs
  subst hargs
  have hel : el P false e = .int .i64 := by
    unfold el sdT
    rw [he]
  obtain ⟨hn, rfl⟩ := delneg_run h
  obtain ⟨cs0, hfit0, hR0⟩ := cin.arg 0 (.mv (.own e false)) (by simp [delnegSig, flatP])
  have hV0 : cs0 = [V 0] := by
    rcases hfit0 with ⟨h1, _⟩ | ⟨_, h2⟩
    · cases h1
    · exact h2
  subst hV0
  have hV1 : V 1 = .func (.func g) #[] #[] := by
    have := cin.clo 1 g [] (by simp [delnegSig])
    rw [hg4] at this
    exact this
  have hsz := cin.sz 0
  have main : Calls P (ρ.f 10) #[V 0, V 1] w fun ex w' => ∃ v, ex = .returned v ∧ Ext w (T 0) w' ∧ Fits (.own e false) v [v] ∧ R P w' F (.own e false) [v] (.list (posL (Y 0).toList)) (T 0) := by
    rw [hV1]
    generalize hv : V 0 = v at hR0
    generalize Y 0 = y at hR0 hn
    generalize T 0 = T0 at hR0 hsz
    cases hR0 with
    | onil => exact (delete_none L _ w).mono fun ex w' ⟨he, q, hw⟩ => ⟨_, he, hw ▸ ⟨rfl, rfl, rfl, Nat.le_refl _, fun _ _ _ => rfl⟩, .inr ⟨rfl, rfl⟩, .onil ..⟩
    | own _ _ b n c arr ps _ Ss h1 h2 h3 h4 h5 h6 h7 h8 h9 h10 h11 =>
      rw [hel] at h4 h11
      simp only [SD.sz, Nat.mul_one] at h4
      obtain ⟨hp, ht⟩ := ints_of (P := P) (arr := arr) h11
      generalize hz : ps.map PV.toInt = zs at hp ht
      subst hp
      have hl : zs.length = n := by simpa using h5
      subst hl
      have hH := holds_of_blockI h1 ht
      have hcall := AnyE.slices_DeleteFunc L (Value.int .i64) (fun _ => rfl) (fun x : Int => decide (x < 0)) g #[] eg 0 v23 b 0 c zs.toArray w (fun W x _ => hneg x W) (fun n os dk x _ => hneg x _) hH (by simp [PV.toList] at hn; simp; omega) (by simpa using h2)
      simp only [List.size_toArray] at hcall
      have hf : (zs.filter fun x => !decide (x < 0)) = zs.filter fun x => decide (0 ≤ x) := by
        congr 1
        funext x
        by_cases hx : x < 0
        · simp [hx, show ¬ 0 ≤ x by omega]
        · simp [hx, show 0 ≤ x by omega]
      rw [hf] at hcall
      refine hcall.mono fun ex w' ⟨he, k, hw⟩ => ?_
      subst hw
      obtain ⟨g1, g2⟩ := put_own (P := P) (F := F) (T0 := T0) hel (k := k) (ts := zs.filter fun x => decide (0 ≤ x)) h1 h2 h3 h4 h7 (List.length_filter_le _ _)
      refine ⟨_, he, g1, .inr ⟨rfl, rfl⟩, ?_⟩
      have : posL (PV.list (zs.map PV.int)).toList = (zs.filter fun x => decide (0 ≤ x)).map PV.int := by
        simp only [posL, PV.toList, List.filter_map]
        rfl
      rw [this]
      exact g2
  show Calls P (ρ.f 10) #[V 0, V 1] w _
  refine main.mono fun e' w' ⟨v, he', hx, hfv, hR'⟩ => ?_
  subst he'
  refine ⟨Y, fun _ => Set.none, [v], [.list (posL (Y 0).toList)], fun j => if j = 0 then T 0 else Set.none, rfl, ?_, rfl⟩
  refine { lv := rfl, lp := rfl, res := fun j rm hj => ?_, arg := fun m pm hm => ?_, non := fun m hm b hb => hb, dU := fun j j' b hb hb' => ?_, dT := fun m m' b hb => hb.elim, dUT := fun j m b _ hb => hb.elim, nU := fun j b hb => ?_, nT := fun m b hb => hb.elim, ext := ⟨hx.os, hx.tape, hx.output, hx.size, fun b hb hs => hx.block b hb fun h => hs ⟨0, h⟩⟩ }
  · match j with
    | 0 =>
      simp only [delnegSig, List.getElem?_cons_zero, Option.some.injEq] at hj
      subst hj
      exact ⟨[v], hfv, hR'⟩
    | j + 1 => simp [delnegSig] at hj
  · simp only [delnegSig, flatP, flatC, List.nil_append, List.mem_cons, Prod.mk.injEq, List.not_mem_nil, or_false] at hm
    obtain ⟨rfl, rfl⟩ := hm
    trivial
  · split at hb
    · split at hb'
      · omega
      · exact hb'.elim
    · exact hb.elim
  · split at hb
    · exact ⟨.inl ⟨0, hb⟩, Nat.lt_of_lt_of_le (cin.sz 0 b hb) hx.size⟩
    · exact hb.elim
end
end Go.Rsc
