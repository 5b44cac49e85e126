/- Functions of the library by their contracts: Itoa, Join. No conditions. -/
import Derived.Test.YtdkfgnnebaahaaaRscZp
import Derived.Test.YtdkfgnnebaahaaaRscZq
import Derived.Shelf.Strconv.Itoa3
import Derived.Shelf.Strings.OnBuilder
import Derived.Shelf.Lay
import Derived.Shelf.Sort.Plain
import Derived.Shelf.Slices.In.SortNone
import Derived.Sort.OwnSortedInts
import Derived.Shelf.Strconv.ErrVarAll
import Derived.Shelf.Small.Strs
namespace Go.Rsc
open Go.RowKit Go.Shelf Go.Proofs
set_option linter.unusedVariables false
set_option linter.unusedSimpArgs false

section
variable {P : Program} {ρ : Ren}

theorem Ext.ofBelow {w w' : World} {S : Set} (h : Below w.heap.size w w') : Ext w S w' := ⟨h.os, h.tape, h.output, h.size, fun b hb _ => h.block b hb⟩
theorem Ext.grow {w : World} {S : Set} (k : Nat) (os : Array Obj) : Ext w S (Sort.grow (w.drewN k) os) :=
  ⟨rfl, rfl, rfl, by simp [Sort.grow, World.drewN], fun b hb _ => by
    show (w.heap ++ os)[b]? = w.heap[b]?
    exact Array.getElem?_append_left hb⟩

def itoaSig : Sig := { ps := [.ro (.int .i64)], rs := [.v .str], orc := some .itoa }
def joinSig (e : TypeId) : Sig := { ps := [.mut (.own e false), .ro .str], rs := [.v .str], orc := some .join }

theorem itoa_run {x : PV} {os : List PV} (h : Orc.itoa.run [x] = some os) : -9223372036854775808 ≤ x.toInt ∧ x.toInt ≤ 9223372036854775807 ∧ os = [.str ⟨(Lib.itoa x.toInt).toArray⟩] := by
  change (if (decide (-9223372036854775808 ≤ x.toInt) && decide (x.toInt ≤ 9223372036854775807)) = true then some [PV.str ⟨(Lib.itoa x.toInt).toArray⟩] else none) = some os at h
  split at h
  · rename_i hc
    simp only [Bool.and_eq_true, decide_eq_true_eq] at hc
    exact ⟨hc.1, hc.2, by simpa using h.symm⟩
  · cases h
theorem join_run {l s : PV} {os : List PV} (h : Orc.join.run [l, s] = some os) : l.toList.length ≤ 140737488355328 ∧ (Lib.join (strsL l) s.toStr.data.toList).length ≤ 140737488355328 ∧ os = [.str ⟨(Lib.join (strsL l) s.toStr.data.toList).toArray⟩, l] := by
  change (if (Nat.ble l.toList.length 140737488355328 && Nat.ble (Lib.join (strsL l) s.toStr.data.toList).length 140737488355328) = true then some [PV.str ⟨(Lib.join (strsL l) s.toStr.data.toList).toArray⟩, l] else none) = some os at h
  split at h
  · rename_i hc
    simp only [Bool.and_eq_true] at hc
    exact ⟨Nat.le_of_ble_eq_true hc.1, Nat.le_of_ble_eq_true hc.2, by simpa using h.symm⟩
  · cases h

theorem itoa_good (L : LaysM.n171 P ρ) (hg : (P.globalNamed "internal/strconv.uint64pow10").isSome = true) {az os : List PV} (h : Orc.itoa.run az = some os) : Ctr P itoaSig (ρ.f 171) az os := by
  refine Ctr.same fun w F V X T cin hargs => ?_
  have hargs : az = [X 0] := hargs
  subst hargs
  obtain ⟨cs, hfit, hR⟩ := cin.arg 0 (.ro (.int .i64)) (by simp [itoaSig, flatP])
  generalize hX : X 0 = x0 at hR h
  cases hR with
  | int _ n _ =>
    have hV : V 0 = .int .i64 n := by
      rcases hfit with ⟨h1, _⟩ | ⟨_, h2⟩
      · cases h1
      · simpa using h2.symm
    obtain ⟨hc1, hc2, hos⟩ := itoa_run h
    have hc1 : -9223372036854775808 ≤ n := hc1
    have hc2 : n ≤ 9223372036854775807 := hc2
    have hos : os = [.str ⟨(Lib.itoa n).toArray⟩] := hos
    subst hos
    obtain ⟨g, hg⟩ := Option.isSome_iff_exists.1 hg
    have hc' := Any.strconv_Itoa L n hc1 hc2 w (cin.kp.tab g hg).2
    show Calls P (ρ.f 171) #[V 0] w _
    rw [hV]
    refine hc'.mono fun e w' ⟨he, k, os', hw⟩ => ?_
    subst he; subst hw
    refine ⟨fun _ => .unit, fun _ _ => False, [.string ⟨(Lib.itoa n).toArray⟩], [.str ⟨(Lib.itoa n).toArray⟩], fun _ => Set.none, rfl, ?_, rfl⟩
    refine { lv := rfl, lp := rfl, res := fun j rm hj => ?_, arg := fun m pm hm => ?_, non := fun m _ b hb => hb, dU := fun j j' b hb => hb.elim, dT := fun m m' b hb => hb.elim, dUT := fun j m b hb => hb.elim, nU := fun j b hb => hb.elim, nT := fun m b hb => hb.elim, ext := Ext.grow k os' }
    · match j with
      | 0 =>
        simp only [itoaSig, List.getElem?_cons_zero, Option.some.injEq] at hj
        subst hj
        exact ⟨[.string ⟨(Lib.itoa n).toArray⟩], .inr ⟨rfl, rfl⟩, .str _ _⟩
      | j + 1 => simp [itoaSig] at hj
    · simp only [itoaSig, flatP, List.mem_singleton, Prod.mk.injEq] at hm
      rw [hm.2]
      trivial

theorem strs_of {w : World} {F : Set} {arr : List Value} {ps : List PV} {Ss : Nat → Set} (hR : ∀ (j : Nat) (p : PV), ps[j]? = some p → R P w F .str (elemAt arr 1 j) p (Ss j)) (j : Nat) (x : ByteArray) (hx : (ps.map PV.toStr)[j]? = some x) :
    elemAt arr 1 j = [.string x] := by
  rw [List.getElem?_map] at hx
  obtain ⟨p, hp, rfl⟩ := Option.map_eq_some_iff.1 hx
  have h := hR j p hp
  generalize hc : elemAt arr 1 j = cs at h
  cases h
  rfl

theorem join_good (L : Lays.n156 P ρ) (X : Builder.Extra P ρ) {e : TypeId} (he : P.underlying e = some .string) {az os : List PV} (h : Orc.join.run az = some os) : Ctr P (joinSig e) (ρ.f 156) az os := by
  refine Ctr.same fun w F V Y T cin hargs => ?_
  have hargs : az = [Y 0, Y 1] := hargs
  subst hargs
  have hel : el P false e = .str := by
    unfold el sdT
    rw [he]
  obtain ⟨cs1, hfit1, hR1⟩ := cin.arg 1 (.ro .str) (by simp [joinSig, flatP])
  have hR1' : ∃ s, Y 1 = .str s ∧ V 1 = .string s := by
    generalize Y 1 = y at hR1
    cases hR1 with
    | str s _ =>
      refine ⟨s, rfl, ?_⟩
      rcases hfit1 with ⟨h1, _⟩ | ⟨_, h2⟩
      · cases h1
      · simpa using h2.symm
  obtain ⟨sep, hY1, hV1⟩ := hR1'
  obtain ⟨cs0, hfit0, hR0⟩ := cin.arg 0 (.mut (.own e false)) (by simp [joinSig, flatP])
  have hV0 : cs0 = [V 0] := by
    rcases hfit0 with ⟨h1, _⟩ | ⟨_, h2⟩
    · cases h1
    · exact h2
  subst hV0
  have hrun : (Y 0).toList.length ≤ 140737488355328 ∧ (Lib.join (strsL (Y 0)) sep.data.toList).length ≤ 140737488355328 ∧ os = [.str ⟨(Lib.join (strsL (Y 0)) sep.data.toList).toArray⟩, Y 0] := by
    rw [hY1] at h
    exact join_run h
  obtain ⟨hn, hlen, rfl⟩ := hrun
  have main : Calls P (ρ.f 156) #[V 0, V 1] w fun e w' => e = .returned (.string ⟨(Lib.join (strsL (Y 0)) sep.data.toList).toArray⟩) ∧ Below w.heap.size w w' := by
    rw [hV1]
    generalize hv : V 0 = v at hR0
    generalize Y 0 = y at hR0 hn hlen
    cases hR0 with
    | onil => exact (Any.strings_Join_none L X none 0 sep w).mono fun e w' ⟨he, hw⟩ => ⟨he, hw ▸ Below.refl _ _⟩
    | own _ _ b n c arr ps _ Ss h1 h2 h3 h4 h5 h6 h7 h8 h9 h10 h11 =>
      rw [hel] at h4 h11
      have hx := strs_of (P := P) (arr := arr.toList) h11
      have e1 : strsL (.list ps) = (ps.map PV.toStr).map (·.data.toList) := by simp [strsL, PV.toList]
      rw [e1] at hlen ⊢
      have hl : (ps.map PV.toStr).length = n := by simp [h5]
      have := Any.strings_Join L X b 0 c (ps.map PV.toStr) sep w (fun j x hj => by
        have hj' := hx j x hj
        rw [Nat.zero_add]
        refine cell_of_heap h1 ?_
        have := elemAt_get (arr := arr) (sz := 1) (j := j) (i := 0) (u := .string x) (by rw [hj']; rfl)
        simpa using this) (cin.sz 0 b h7) (by rw [hl, ← h5]; exact hn) (by omega) hlen
      rw [hl] at this
      exact this
  show Calls P (ρ.f 156) #[V 0, V 1] w _
  refine main.mono fun e w' ⟨he', hb⟩ => ?_
  subst he'
  refine ⟨Y, T, [.string ⟨(Lib.join (strsL (Y 0)) sep.data.toList).toArray⟩], [.str ⟨(Lib.join (strsL (Y 0)) sep.data.toList).toArray⟩], fun _ => Set.none, rfl, ?_, rfl⟩
  refine { lv := rfl, lp := rfl, res := fun j rm hj => ?_, arg := fun m pm hm => ?_, non := ?_, dU := fun j j' b hb => hb.elim, dT := cin.dj, dUT := fun j m b hb => hb.elim, nU := fun j b hb => hb.elim, nT := fun m b hb' => ⟨.inl ⟨m, hb'⟩, Nat.lt_of_lt_of_le (cin.sz m b hb') hb.size⟩, ext := Ext.ofBelow hb }
  · match j with
    | 0 =>
      simp only [joinSig, List.getElem?_cons_zero, Option.some.injEq] at hj
      subst hj
      exact ⟨[.string ⟨(Lib.join (strsL (Y 0)) sep.data.toList).toArray⟩], .inr ⟨rfl, rfl⟩, .str _ _⟩
    | j + 1 => simp [joinSig] at hj
  · simp only [joinSig, flatP, List.mem_cons, Prod.mk.injEq, List.not_mem_nil, or_false] at hm
    rcases hm with ⟨rfl, rfl⟩ | ⟨_, rfl⟩
    · exact ⟨_, hfit0, hR0.imp (fun _ hb => hb) (fun _ hb => hb) fun b hb' => hb.block b (hb'.elim (cin.fz b) (cin.sz 0 b))⟩
    · trivial
  · refine fun m hm => cin.non m fun pm hp => ?_
    have := hm pm hp
    simp only [joinSig, flatP, List.mem_cons, Prod.mk.injEq, List.not_mem_nil, or_false] at hp
    rcases hp with ⟨_, rfl⟩ | ⟨_, rfl⟩
    · cases this
    · rfl

theorem sort_run {l : PV} {os : List PV} (h : Orc.sort.run [l] = some os) : l.toList.length ≤ 140737488355328 ∧ os = [.list (sortL l.toList)] := by
  change (if Nat.ble l.toList.length 140737488355328 = true then some [PV.list (sortL l.toList)] else none) = some os at h
  split at h
  · rename_i hc
    exact ⟨Nat.le_of_ble_eq_true hc, by simpa using h.symm⟩
  · cases h
def sortSig (e : TypeId) : Sig := { ps := [.mut (.own e false)], rs := [], orc := some .sort }
theorem ints_of {w : World} {F : Set} {arr : Array Value} {ps : List PV} {Ss : Nat → Set} (hR : ∀ (j : Nat) (p : PV), ps[j]? = some p → R P w F (.int .i64) (elemAt arr.toList 1 j) p (Ss j)) :
    ps = (ps.map PV.toInt).map PV.int ∧ arr.toList.take (ps.map PV.toInt).length = (ps.map PV.toInt).map (Value.int .i64) := by
  have hx : ∀ (j : Nat) (p : PV), ps[j]? = some p → p = .int p.toInt ∧ arr.toList[j]? = some (.int .i64 p.toInt) := by
    intro j p hp
    have h := hR j p hp
    generalize hc : elemAt arr.toList 1 j = cs at h
    cases h
    rename_i x
    refine ⟨rfl, ?_⟩
    unfold elemAt at hc
    rw [Nat.mul_one] at hc
    have h0 : ((arr.toList.drop j).take 1)[0]? = some (.int .i64 x) := by rw [hc]; rfl
    rw [List.getElem?_take, if_pos (by omega), List.getElem?_drop, Nat.add_zero] at h0
    exact h0
  constructor
  · apply List.ext_getElem?
    intro j
    rw [List.getElem?_map, List.getElem?_map]
    cases hp : ps[j]? with
    | none => rfl
    | some p => simp only [Option.map_some]; rw [← (hx j p hp).1]
  · apply List.ext_getElem?
    intro j
    rw [List.getElem?_take, List.length_map, List.getElem?_map, List.getElem?_map]
    cases hp : ps[j]? with
    | none =>
      rw [if_neg (by have := List.getElem?_eq_none_iff.1 hp; omega)]
      rfl
    | some p =>
      rw [if_pos (List.getElem?_eq_some_iff.1 hp).1, (hx j p hp).2]
      rfl
theorem sort_good (L : Lays.n189 P ρ) {e : TypeId} (he : P.underlying e = some (.int .i64)) {az os : List PV} (h : Orc.sort.run az = some os) : Ctr P (sortSig e) (ρ.f 189) az os := by
  refine Ctr.same fun w F V Y T cin hargs => ?_
  have hargs : az = [Y 0] := hargs
  subst hargs
  have hel : el P false e = .int .i64 := by
    unfold el sdT
    rw [he]
  obtain ⟨hn, rfl⟩ := sort_run h
  obtain ⟨cs0, hfit0, hR0⟩ := cin.arg 0 (.mut (.own e false)) (by simp [sortSig, flatP])
  have hV0 : cs0 = [V 0] := by
    rcases hfit0 with ⟨h1, _⟩ | ⟨_, h2⟩
    · cases h1
    · exact h2
  subst hV0
  have hsz := cin.sz 0
  have main : Calls P (ρ.f 189) #[V 0] w fun ex w' => ex = .returned (.tuple #[]) ∧ Ext w (T 0) w' ∧ R P w' F (.own e false) [V 0] (.list (sortL (Y 0).toList)) (T 0) := by
    generalize hv : V 0 = v at hR0
    generalize Y 0 = y at hR0 hn
    generalize T 0 = T0 at hR0 hsz
    cases hR0 with
    | onil => exact (Any.slices_Sort_int_none L none 0 w).mono fun ex w' ⟨he, hw⟩ => ⟨he, hw ▸ ⟨rfl, rfl, rfl, Nat.le_refl _, fun _ _ _ => rfl⟩, by
        have : sortL (PV.list []).toList = [] := by simp [sortL, PV.toList]
        rw [this]
        exact .onil ..⟩
    | own _ _ b n c arr ps _ Ss h1 h2 h3 h4 h5 h6 h7 h8 h9 h10 h11 =>
      rw [hel] at h4 h11
      simp only [SD.sz, Nat.mul_one] at h4
      obtain ⟨hp, ht⟩ := ints_of (P := P) (arr := arr) h11
      generalize hz : ps.map PV.toInt = zs at hp ht
      subst hp
      have hl : zs.length = n := by simpa using h5
      subst hl
      have hH := holds_of_blockI h1 ht
      have hcall := Any.slices_Sort_int L b 0 c zs w hH (hsz b h7) (by have : maxLen = 9223372036854775807 := rfl; simp [PV.toList] at hn; omega)
      refine hcall.mono fun ex w' ⟨he, k, os, hw⟩ => ?_
      subst hw
      have hg := grownBy_sortedI (w := w) (g := b) (n := k) (os := os) (zs.mergeSort fun x y => decide (x ≤ y)).toArray
      have hb := heap_sortedI (n := k) (os := os) (zs.mergeSort fun x y => decide (x ≤ y)).toArray h1
      have hlen : (zs.mergeSort fun x y => decide (x ≤ y)).length = zs.length := List.length_mergeSort ..
      have htk := take_putCellsI arr (zs.mergeSort fun x y => decide (x ≤ y)) (by omega)
      have hsl : sortL (PV.list (zs.map PV.int)).toList = (zs.mergeSort fun x y => decide (x ≤ y)).map PV.int := by
        have : (zs.map PV.int).map PV.toInt = zs := by rw [List.map_map]; exact List.map_id _
        simp only [sortL, PV.toList, this]
      rw [hsl]
      refine ⟨he, ⟨hg.os, hg.tape, hg.output, hg.size, fun k hk hne => hg.block k hk fun e => hne (by cases e; exact h7)⟩, ?_⟩
      rw [hlen] at htk
      generalize (zs.mergeSort fun x y => decide (x ≤ y)) = ts at hb htk hlen
      refine .own e false b _ c _ _ _ (fun _ => Set.none) hb h2 h3 (by rw [hel]; simp [SD.sz, Go.Sort.putCells, h4]) (by rw [List.length_map]; exact hlen) (by rw [hel]; simp [SD.sz]) h7 (fun _ _ h => h.elim) (fun _ _ h => h.elim) (fun _ _ _ h => h.elim) (fun j p hp => ?_)
      rw [hel]
      rw [List.getElem?_map] at hp
      obtain ⟨x, hx, rfl⟩ := Option.map_eq_some_iff.1 hp
      have hj : j < zs.length := by rw [← hlen]; exact (List.getElem?_eq_some_iff.1 hx).1
      have h0 : ((Go.Sort.putCells (Value.int .i64) 0 ts.toArray arr).toList.take zs.length)[j]? = some (.int .i64 x) := by rw [htk, List.getElem?_map, hx]; rfl
      rw [List.getElem?_take, if_pos hj] at h0
      have he2 : elemAt (Go.Sort.putCells (Value.int .i64) 0 ts.toArray arr).toList 1 j = [.int .i64 x] := by
        unfold elemAt
        rw [Nat.mul_one]
        obtain ⟨hl, hy⟩ := List.getElem?_eq_some_iff.1 h0
        rw [List.drop_eq_getElem_cons hl, hy]
        rfl
      show R P _ F (.int .i64) (elemAt _ 1 j) _ _
      rw [he2]
      exact .int ..
  show Calls P (ρ.f 189) #[V 0] w _
  refine main.mono fun e' w' ⟨he', hx, hR'⟩ => ?_
  subst he'
  refine ⟨fun _ => .list (sortL (Y 0).toList), T, [], [], fun _ => Set.none, rfl, ?_, rfl⟩
  refine { lv := rfl, lp := rfl, res := fun j rm hj => by simp [sortSig] at hj, arg := fun m pm hm => ?_, non := ?_, dU := fun j j' b hb => hb.elim, dT := cin.dj, dUT := fun j m b hb => hb.elim, nU := fun j b hb => hb.elim, nT := fun m b hb' => ⟨.inl ⟨m, hb'⟩, Nat.lt_of_lt_of_le (cin.sz m b hb') hx.size⟩, ext := ⟨hx.os, hx.tape, hx.output, hx.size, fun b hb hs => hx.block b hb fun h => hs ⟨0, h⟩⟩ }
  · simp only [sortSig, flatP, List.mem_cons, Prod.mk.injEq, List.not_mem_nil, or_false] at hm
    obtain ⟨rfl, rfl⟩ := hm
    exact ⟨_, hfit0, hR'⟩
  · refine fun m hm => cin.non m fun pm hp => ?_
    have := hm pm hp
    simp only [sortSig, flatP, List.mem_cons, Prod.mk.injEq, List.not_mem_nil, or_false] at hp
    obtain ⟨_, rfl⟩ := hp
    cases this

theorem atoi_run {x : PV} {os : List PV} (h : Orc.atoi.run [x] = some os) : x.toStr.size ≤ 281474976710656 ∧ os = atoiR x.toStr.data.toList := by
  change (if Nat.ble x.toStr.size 281474976710656 = true then some (atoiR x.toStr.data.toList) else none) = some os at h
  split at h
  · rename_i hc
    exact ⟨Nat.le_of_ble_eq_true hc, by simpa using h.symm⟩
  · cases h
def atoiSig : Sig := { ps := [.ro .str], rs := [.v (.int .i64), .v .ifc], orc := some .atoi }
def indexSig : Sig := { ps := [.ro .str, .ro (.int .u8)], rs := [.v (.int .i64)], orc := some .index }
theorem arg_str {w : World} {F : Set} {v : Value} {p : PV} {T : Set} (h : PArg P w F (.ro .str) v p T) : ∃ s, p = .str s ∧ v = .string s := by
  obtain ⟨cs, hfit, hR⟩ := h
  generalize p = y at hR
  cases hR with
  | str s _ =>
    refine ⟨s, rfl, ?_⟩
    rcases hfit with ⟨h1, _⟩ | ⟨_, h2⟩
    · cases h1
    · simpa using h2.symm
theorem arg_int {w : World} {F : Set} {v : Value} {p : PV} {T : Set} {k : IntKind} (h : PArg P w F (.ro (.int k)) v p T) : ∃ n, p = .int n ∧ v = .int k n := by
  obtain ⟨cs, hfit, hR⟩ := h
  generalize p = y at hR
  cases hR with
  | int _ n _ =>
    refine ⟨n, rfl, ?_⟩
    rcases hfit with ⟨h1, _⟩ | ⟨_, h2⟩
    · cases h1
    · simpa using h2.symm
theorem atoi_good (L : LaysC.n172 P ρ) (g1 : (P.globalNamed "strconv.ErrSyntax").isSome = true) (g2 : (P.globalNamed "strconv.ErrRange").isSome = true) {az os : List PV} (h : Orc.atoi.run az = some os) : Ctr P atoiSig (ρ.f 172) az os := by
  refine Ctr.same fun w F V X T cin hargs => ?_
  have hargs : az = [X 0] := hargs
  subst hargs
  obtain ⟨s, hX, hV⟩ := arg_str (cin.arg 0 (.ro .str) (by simp [atoiSig, flatP]))
  obtain ⟨hlim, rfl⟩ := atoi_run h
  rw [hX] at hlim ⊢
  have hlim : s.size ≤ 281474976710656 := hlim
  obtain ⟨gs, hg1⟩ := Option.isSome_iff_exists.1 g1
  obtain ⟨gr, hg2⟩ := Option.isSome_iff_exists.1 g2
  obtain ⟨_, t1, p1, v1⟩ := cin.kp.err _ gs (.inl rfl) hg1
  obtain ⟨_, t2, p2, v2⟩ := cin.kp.err _ gr (.inr rfl) hg2
  have main : Calls P (ρ.f 172) #[.string s] w fun e w' => ∃ n b v, e = .returned (.tuple #[.int .i64 n, v]) ∧ ((v = .nilIface ∧ b = true) ∨ ∃ t x, v = .iface t x ∧ b = false) ∧ atoiR s.data.toList = [.int n, .bool b] ∧ Ext w (handed T) w' := by
    unfold atoiR
    cases hA : Lib.atoiAll s.data.toList with
    | ok v =>
      refine (Any.strconv_Atoi_ok L s (by omega) v hA w).mono fun e w' ⟨he, hw⟩ => ⟨v, true, .nilIface, he, .inl ⟨rfl, rfl⟩, rfl, ?_⟩
      rcases hw with rfl | ⟨t, rfl⟩
      · exact ⟨rfl, rfl, rfl, Nat.le_refl _, fun _ _ _ => rfl⟩
      · exact ⟨rfl, rfl, rfl, by rw [Lib.bytesWorld_size]; omega, fun b hb _ => Lib.bytesWorld_at_old w _ t b hb⟩
    | «syntax» => exact (Any.strconv_Atoi_syntax_var L s hlim hA t1 p1 w v1).mono fun e w' ⟨N, he, _, _, hb⟩ => ⟨0, false, _, he, .inr ⟨_, _, rfl, rfl⟩, rfl, Ext.ofBelow hb⟩
    | range => exact (Any.strconv_Atoi_range_var L s hlim hA t2 p2 w v2).mono fun e w' ⟨N, he, _, _, hb⟩ => ⟨_, false, _, he, .inr ⟨_, _, rfl, rfl⟩, rfl, Ext.ofBelow hb⟩
  show Calls P (ρ.f 172) #[V 0] w _
  rw [hV]
  refine main.mono fun e w' ⟨n, b, v, he, hv, hr, hx⟩ => ?_
  refine ⟨fun _ => .unit, fun _ _ => False, [.int .i64 n, v], [.int n, .bool b], fun _ => Set.none, he, ?_, by
    have : (PV.str s).toStr.data.toList = s.data.toList := rfl
    rw [this, hr]; rfl⟩
  refine { lv := rfl, lp := rfl, res := fun j rm hj => ?_, arg := fun m pm hm => ?_, non := fun m _ b hb => hb, dU := fun j j' b hb => hb.elim, dT := fun m m' b hb => hb.elim, dUT := fun j m b hb => hb.elim, nU := fun j b hb => hb.elim, nT := fun m b hb => hb.elim, ext := hx }
  · match j with
    | 0 =>
      simp only [atoiSig, List.getElem?_cons_zero, Option.some.injEq] at hj
      subst hj
      exact ⟨[.int .i64 n], .inr ⟨rfl, rfl⟩, .int _ _ _⟩
    | 1 =>
      simp only [atoiSig, List.getElem?_cons_succ, List.getElem?_cons_zero, Option.some.injEq] at hj
      subst hj
      refine ⟨[v], .inr ⟨rfl, rfl⟩, ?_⟩
      rcases hv with ⟨rfl, rfl⟩ | ⟨t, x, rfl, rfl⟩
      · exact .inil _
      · exact .isome _ _ _
    | j + 2 => simp [atoiSig] at hj
  · simp only [atoiSig, flatP, List.mem_singleton, Prod.mk.injEq] at hm
    rw [hm.2]
    trivial
theorem index_good (L : Lays.n137 P ρ) {az os : List PV} (h : Orc.index.run az = some os) : Ctr P indexSig (ρ.f 137) az os := by
  refine Ctr.same fun w F V X T cin hargs => ?_
  have hargs : az = [X 0, X 1] := hargs
  subst hargs
  obtain ⟨s, hX, hV⟩ := arg_str (cin.arg 0 (.ro .str) (by simp [indexSig, flatP]))
  obtain ⟨c, hX1, hV1⟩ := arg_int (cin.arg 1 (.ro (.int .u8)) (by simp [indexSig, flatP]))
  have h : some [PV.int (Lib.indexByte (X 0).toStr.data.toList (X 1).toInt.toNat.toUInt8)] = some os := h
  rw [hX, hX1] at h
  simp only [Option.some.injEq] at h
  subst h
  show Calls P (ρ.f 137) #[V 0, V 1] w _
  rw [hV, hV1]
  refine (Any.strings_IndexByte L s c w).mono fun e w' ⟨he, hw⟩ => ?_
  subst hw
  refine ⟨fun _ => .unit, fun _ _ => False, [.int .i64 (Lib.indexByte s.data.toList c.toNat.toUInt8)], [.int (Lib.indexByte s.data.toList c.toNat.toUInt8)], fun _ => Set.none, he, ?_, rfl⟩
  refine { lv := rfl, lp := rfl, res := fun j rm hj => ?_, arg := fun m pm hm => ?_, non := fun m _ b hb => hb, dU := fun j j' b hb => hb.elim, dT := fun m m' b hb => hb.elim, dUT := fun j m b hb => hb.elim, nU := fun j b hb => hb.elim, nT := fun m b hb => hb.elim, ext := ⟨rfl, rfl, rfl, Nat.le_refl _, fun _ _ _ => rfl⟩ }
  · match j with
    | 0 =>
      simp only [indexSig, List.getElem?_cons_zero, Option.some.injEq] at hj
      subst hj
      exact ⟨_, .inr ⟨rfl, rfl⟩, .int _ _ _⟩
    | j + 1 => simp [indexSig] at hj
  · simp only [indexSig, flatP, List.mem_cons, Prod.mk.injEq, List.not_mem_nil, or_false] at hm
    rcases hm with ⟨_, rfl⟩ | ⟨_, rfl⟩ <;> trivial
theorem orc_is {P : Program} {sg : FuncId → Option Sig} {f : FuncId} {s : Sig} {o : Orc} {a r : List PV} (hs : sg f = some s) (ho : s.orc = some o) (h : o.run a = some r) : Is P sg f a r := by
  refine ⟨1, fun n hn => ?_⟩
  obtain ⟨k, rfl⟩ : ∃ k, n = k + 1 := ⟨n - 1, by omega⟩
  show prun (compF P sg) (orcI sg) (k + 1) f a = some r
  have hc : compF P sg f = none := by
    unfold compF
    rw [hs]
    split
    · rename_i s' fn e _
      cases e
      simp [ho]
    · rfl
  simp only [prun, hc]
  unfold orcI
  rw [hs]
  simp only [ho]
  exact h
theorem orc_good {sg : FuncId → Option Sig} (h : ∀ f s o, sg f = some s → s.orc = some o → ∀ az os, o.run az = some os → Ctr P s (f % 4096) az os) : Good P sg (orcI sg) := fun f s az os hs ho => by
  unfold orcI at ho
  rw [hs] at ho
  cases e : s.orc with
  | none => simp only [e] at ho; cases ho
  | some o => simp only [e] at ho; exact h f s o hs e az os ho

/-! ### Strings as lists of bytes -/
def sB (l : List UInt8) : ByteArray := ⟨l.toArray⟩
@[simp] theorem sB_data (s : ByteArray) : sB s.data.toList = s := by unfold sB; rw [Array.toArray_toList]
@[simp] theorem toList_sB (l : List UInt8) : (sB l).data.toList = l := by simp [sB]
@[simp] theorem size_sB (l : List UInt8) : (sB l).size = l.length := by simp [sB, ByteArray.size]
theorem size_data (s : ByteArray) : s.size = s.data.toList.length := rfl
@[simp] theorem catB_sB (a b : List UInt8) : catB (sB a) (sB b) = sB (a ++ b) := by
  rw [catB_eq]
  apply ByteArray.ext
  rw [ByteArray.data_append]
  simp [sB]
theorem catB_s (a b : ByteArray) : catB a b = sB (a.data.toList ++ b.data.toList) := by
  conv => lhs; rw [← sB_data a, ← sB_data b]
  exact catB_sB _ _

/-! ### Numbers, written out -/
def dgs (u j : Nat) : List UInt8 := (List.range j).map fun t => Lib.dg u (j - 1 - t)
theorem dgs_succ (u j : Nat) : dgs u (j + 1) = Lib.dg u j :: dgs u j := by
  unfold dgs
  rw [List.range_succ_eq_map, List.map_cons, List.map_map]
  congr 1
  refine List.map_congr_left fun t ht => ?_
  have := List.mem_range.1 ht
  show Lib.dg u (j + 1 - 1 - (t + 1)) = _
  congr 1
  omega
theorem dgs_all (u : Nat) : dgs u (Lib.nDigits u) = Lib.decDigits u := (Lib.decDigits_eq u).symm
theorem dgs_length (u j : Nat) : (dgs u j).length = j := by simp [dgs]
theorem pow_nDigits : ∀ u : Nat, 1 ≤ u → 10 ^ (Lib.nDigits u - 1) ≤ u := by
  intro u
  induction u using Nat.strongRecOn with
  | _ u ih =>
    intro h1
    by_cases h : u < 10
    · rw [Lib.nDigits_small h]; exact h1
    · rw [Lib.nDigits_big h]
      have := ih (u / 10) (by omega) (by omega)
      have hp := Lib.nDigits_pos (u / 10)
      obtain ⟨k, hk⟩ : ∃ k, Lib.nDigits (u / 10) = k + 1 := ⟨Lib.nDigits (u / 10) - 1, by omega⟩
      rw [hk] at this ⊢
      simp only [Nat.add_sub_cancel] at this ⊢
      rw [Nat.pow_succ]
      omega
theorem nDigits_le {u : Nat} (h : u < 100000000000000000000) : Lib.nDigits u ≤ 20 := by
  by_cases h0 : u < 10
  · rw [Lib.nDigits_small h0]; decide
  · have h1 := pow_nDigits u (by omega)
    refine Decidable.byContradiction fun hn => ?_
    have : 10 ^ 20 ≤ 10 ^ (Lib.nDigits u - 1) := Nat.pow_le_pow_right (by decide) (by omega)
    omega
theorem itoa_len {n : Int} (h0 : -9223372036854775808 ≤ n) (h1 : n < 9223372036854775808) : (Lib.itoa n).length ≤ 21 := by
  unfold Lib.itoa
  split
  · rw [List.length_cons, Lib.decDigits_length]
    have := nDigits_le (u := n.natAbs) (by omega)
    omega
  · rw [Lib.decDigits_length]
    have := nDigits_le (u := n.toNat) (by omega)
    omega
theorem join_snoc (l : List (List UInt8)) (y sep : List UInt8) (h : l ≠ []) : Lib.join (l ++ [y]) sep = Lib.join l sep ++ sep ++ y := by
  cases l with
  | nil => exact absurd rfl h
  | cons x r =>
    rw [List.cons_append, Lib.join_cons, Lib.join_cons]
    simp [Lib.joinTail, List.append_assoc]
theorem strsL_sB (L : List (List UInt8)) : strsL (.list (L.map fun x => .str (sB x))) = L := by
  simp [strsL, PV.toList, PV.toStr, Function.comp_def]
theorem join_le (L : List (List UInt8)) (sep : List UInt8) (m : Nat) (h : ∀ x ∈ L, x.length ≤ m) : (Lib.join L sep).length ≤ (m + sep.length) * L.length := by
  induction L with
  | nil => simp [Lib.join_nil]
  | cons x r ih =>
    have h1 := h x (by simp)
    rw [Lib.join_cons, List.length_append, Lib.joinTail_length]
    have h2 : Lib.lens r ≤ m * r.length := by
      clear ih
      induction r with
      | nil => simp [Lib.lens]
      | cons y r ih2 =>
        have := h y (by simp)
        have := ih2 fun z hz => h z (by simp at hz ⊢; rcases hz with e | e <;> simp [e])
        simp only [Lib.lens, List.map_cons, List.sum_cons, List.length_cons, Nat.mul_succ] at *
        omega
    simp only [List.length_cons, Nat.add_mul, Nat.mul_succ]
    omega
end
end Go.Rsc
