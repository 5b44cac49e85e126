/- A law: its arguments are opened, its run is its pure program's. No conditions. -/
import Derived.Test.YtdkfgnnebaahaaaRscZl
import Derived.ChangeArms
import Derived.DataReads
import Derived.WideShapes
import Derived.ChangeShapes
import Derived.Carry
namespace Go.Rsc
open Go.RowKit Go.WideShapes Go.ChangeShapes
set_option linter.unusedVariables false
set_option linter.unusedSimpArgs false

/-- What data of a type is, as a tree. -/
inductive WfT (P : Program) : TypeId → PV → Prop
  | int {t : TypeId} {k : IntKind} {n : Int} : P.underlying t = some (.int k) → (Lit.int k n).wf = true → WfT P t (.int n)
  | bool {t : TypeId} {b : Bool} : P.underlying t = some .bool → WfT P t (.bool b)
  | str {t : TypeId} {s : ByteArray} : P.underlying t = some .string → s.size ≤ maxLen → WfT P t (.str s)
  | slice {t e : TypeId} {ps : List PV} : P.underlying t = some (.slice e) → ps.length ≤ maxLen → (∀ p ∈ ps, WfT P e p) → WfT P t (.list ps)
  | struct {t : TypeId} {fs : Array Field} {ps : List PV} : P.underlying t = some (.struct fs) → ps.length = fs.size → (∀ (i : Nat) (f : Field) (p : PV), fs[i]? = some f → ps[i]? = some p → WfT P f.type p) → WfT P t (.agg ps)

def fieldsOk (P : Program) (L : List TypeId) : List Field → Nat → Option Nat
  | [], off => some off
  | f :: fs, off => if Nat.beq f.offset off && (Nat.beq (P.cellsOf f.type) (sdOf P f.type).sz && (sdT P false 7 f.type == sdOf P f.type && mem f.type L)) then fieldsOk P L fs (off + (sdOf P f.type).sz) else none
def tyIn (P : Program) (L : List TypeId) (t : TypeId) : Bool := match P.underlying t with
  | some (.int _) | some .bool | some .string => true
  | some (.slice e) => mem e L && Nat.beq (P.cellsOf e) (sdOf P e).sz
  | some (.struct fs) => fieldsOk P L fs.toList 0 == some (P.cellsOf t)
  | _ => false
/-- Types of plain data, closed under their parts. -/
def tysOk (P : Program) (L : List TypeId) : Bool := L.all (tyIn P L)

section
variable {H : Type} {enc : TypeId × Value → H} {P : Program} {W : World} {L : List TypeId}

theorem block_of_cell {w : World} {ad : Addr} {u : Value} (h : w.cell? ad = some u) : ad.block < w.heap.size := by
  unfold World.cell? at h
  cases hb : w.heap[ad.block]? with
  | none => simp [hb] at h
  | some o => exact (Array.getElem?_eq_some_iff.1 hb).1

theorem chooseL {α : Type} {Q : Nat → α → Prop} : ∀ len : Nat, (∀ i, i < len → ∃ z, Q i z) → ∃ xs : List α, xs.length = len ∧ ∀ (i : Nat) (z : α), xs[i]? = some z → Q i z
  | 0, _ => ⟨[], rfl, fun i z h => by simp at h⟩
  | len + 1, h => by
    obtain ⟨xs, hl, hx⟩ := chooseL len (fun i hi => h i (by omega))
    obtain ⟨z, hz⟩ := h len (by omega)
    refine ⟨xs ++ [z], by simp [hl], fun i y hy => ?_⟩
    rcases Nat.lt_or_ge i xs.length with hi | hi
    · rw [List.getElem?_append_left hi] at hy
      exact hx i y hy
    · have hi2 : i = xs.length := by
        have := (List.getElem?_eq_some_iff.1 hy).1
        simp at this
        omega
      subst hi2
      have : z = y := by simpa using hy
      subst this
      rw [hl]
      exact hz

theorem opensR (hL : tysOk P L = true) : ∀ (fuel : Nat) (t : TypeId) (cs : List Value) x, t ∈ L → DataW.trod enc P W 0 (fun _ => true) true fuel t cs = some x →
    ∃ p, R P W (fun b => b < W.heap.size) (sdOf P t) cs p Set.none ∧ WfT P t p := by
  intro fuel
  induction fuel with
  | zero => intro t cs x _ hx; simp [DataW.trod] at hx
  | succ n ih =>
    intro t cs x ht hx
    have hty := List.all_eq_true.1 hL t ht
    unfold tyIn at hty
    have hsd : ∀ {y : TypeDesc}, P.underlying t = some y → sdOf P t = match y with
        | .int k => .int k
        | .bool => .bool
        | .string => .str
        | .slice e => .bor e
        | .struct fs => fs.toList.foldr (fun f acc => .sc (sdT P false 7 f.type) acc) .sn
        | .pointer e => if isFp e then .fp e else .dead (P.cellsOf t)
        | _ => .dead (P.cellsOf t) := by
      intro y hy
      unfold sdOf sdT
      rw [hy]
      cases y <;> rfl
    cases hu : P.underlying t with
    | none => simp [hu] at hty
    | some y =>
      rw [hsd hu]
      cases y <;> simp only [hu] at hty <;> try (cases hty; done)
      case int k =>
        obtain ⟨a, rfl, _, hw⟩ := DataW.trod_int hu hx
        exact ⟨.int a, .int .., .int hu hw⟩
      case bool =>
        obtain ⟨a, rfl, _⟩ := DataW.trod_bool hu hx
        exact ⟨.bool a, .bool .., .bool hu⟩
      case string =>
        obtain ⟨a, rfl, _, hw⟩ := DataW.trod_string hu hx
        exact ⟨.str a, .str .., .str hu hw⟩
      case slice e =>
        simp only [Bool.and_eq_true] at hty
        obtain ⟨h1, h2⟩ := hty
        have h1 := mem_iff.1 h1
        have h2 := beq_iff.1 h2
        rcases DataW.trod_slice hu hx with ⟨rfl, _⟩ | ⟨a, len, cap, elems, rest, m, hm, rfl, _, _, hlc, hcm, hel, helem, _, _⟩
        · refine ⟨.list [], .bor e none 0 0 [] _ (fun _ => []) rfl (Nat.le_refl _) (fun j hj => by omega) (fun j hj => by omega) (fun j p hp => by simp at hp), .slice hu (by simp) (by simp)⟩
        · have hm : m = n := by omega
          subst hm
          have hq : ∀ i, i < len → ∃ z : PV × List Value, R P W (fun b => b < W.heap.size) (sdOf P e) z.2 z.1 Set.none ∧ WfT P e z.1 ∧ z.2.length = (sdOf P e).sz ∧ ∀ j u, z.2[j]? = some u → W.cell? (a.add (i * (sdOf P e).sz + j)) = some u := by
            intro i hi
            have h3 := helem i hi
            rw [List.getElem?_eq_getElem (by omega)] at h3
            obtain ⟨c, hc1, hc2⟩ := Option.bind_eq_some_iff.1 h3
            obtain ⟨p, hp1, hp2⟩ := ih e c _ h1 hc2
            obtain ⟨_, hcl, hcell⟩ := World.cells?_some hc1
            refine ⟨(p, c), hp1, hp2, hp1.len, fun j u hj => ?_⟩
            have hjl : j < c.length := (List.getElem?_eq_some_iff.1 hj).1
            have h4 := hcell j (by omega)
            rw [add_two, h2, hj] at h4
            exact h4
          obtain ⟨xs, hxl, hxs⟩ := chooseL len hq
          have hget : ∀ j, j < len → xs[j]? = some (xs.getD j (.unit, [])) := fun j hj => getD_some (by omega) _
          refine ⟨.list (xs.map (·.1)), .bor e (some a) len cap _ _ (fun j => (xs.getD j (.unit, [])).2) (by simp [hxl]) hlc (fun j hj => (hxs j _ (hget j hj)).2.2.1) (fun j hj i u hu => ?_) (fun j p hp => ?_), .slice hu (by simp only [List.length_map, hxl]; omega) fun p hp => ?_⟩
          · have hc := (hxs j _ (hget j hj)).2.2.2 i u hu
            exact ⟨a, rfl, by have := block_of_cell hc; rwa [block_add] at this, hc⟩
          · rw [List.getElem?_map] at hp
            obtain ⟨z, hz, rfl⟩ := Option.map_eq_some_iff.1 hp
            have hjl : j < len := by have := (List.getElem?_eq_some_iff.1 hz).1; omega
            have := hget j hjl
            rw [this] at hz
            simp only [Option.some.injEq] at hz
            rw [← hz]
            exact (hxs j _ this).1
          · obtain ⟨z, hz, rfl⟩ := List.mem_map.1 hp
            obtain ⟨i, hi⟩ := List.getElem?_of_mem hz
            exact (hxs i z hi).2.1
      case struct fs =>
        rw [beq_iff_eq] at hty
        obtain ⟨xs, m, hm, _, hl, hxl, hfs⟩ := DataW.trod_struct hu hx
        have hm : m = n := by omega
        subst hm
        have key : ∀ (l : List Field) (off : Nat) (tot : Nat), fieldsOk P L l off = some tot → tot = cs.length → (∀ f ∈ l, ∃ x, DataW.trod enc P W 0 (fun _ => true) true m f.type ((cs.drop f.offset).take (P.cellsOf f.type)) = some x) →
            off ≤ cs.length ∧ ∃ ps, R P W (fun b => b < W.heap.size) (l.foldr (fun f acc => .sc (sdT P false 7 f.type) acc) .sn) (cs.drop off) (.agg ps) Set.none ∧ ps.length = l.length ∧ ∀ (i : Nat) f p, l[i]? = some f → ps[i]? = some p → WfT P f.type p := by
          intro l
          induction l with
          | nil =>
            intro off tot h1 h2 _
            simp only [fieldsOk, Option.some.injEq] at h1
            refine ⟨by omega, [], ?_, rfl, fun i f p h => by simp at h⟩
            have : cs.drop off = [] := by rw [List.drop_eq_nil_iff]; omega
            rw [this]
            exact .sn _
          | cons f l ih2 =>
            intro off tot h1 h2 h3
            simp only [fieldsOk] at h1
            split at h1
            · rename_i hc
              simp only [Bool.and_eq_true, beq_iff_eq] at hc
              obtain ⟨c1, c2, c3, c4⟩ := hc
              have c1 := beq_iff.1 c1
              have c2 := beq_iff.1 c2
              obtain ⟨hle, ps, g1, g2, g3⟩ := ih2 _ _ h1 h2 fun f' hf' => h3 f' (by simp [hf'])
              obtain ⟨x, hx⟩ := h3 f (by simp)
              obtain ⟨p, k1, k2⟩ := ih f.type _ _ (mem_iff.1 c4) hx
              refine ⟨by omega, p :: ps, ?_, by simp [g2], fun i f' p' hi hp => ?_⟩
              · rw [c1, c2] at k1
                have hcat : cs.drop off = (cs.drop off).take (sdOf P f.type).sz ++ cs.drop (off + (sdOf P f.type).sz) := by
                  rw [← List.drop_drop, List.take_append_drop]
                rw [hcat]
                show R P W _ (.sc (sdT P false 7 f.type) _) _ _ _
                rw [c3]
                exact .sc _ _ _ _ _ _ _ _ _ k1 g1 (fun _ h => h) (fun _ h => h) (fun _ h _ => h)
              · cases i with
                | zero => simp at hi hp; subst hi; subst hp; exact k2
                | succ i => exact g3 i f' p' (by simpa using hi) (by simpa using hp)
            · cases h1
        obtain ⟨_, ps, g1, g2, g3⟩ := key fs.toList 0 _ hty hl.symm fun f hf => by
          obtain ⟨i, hi⟩ := List.getElem?_of_mem hf
          have hi' : fs[i]? = some f := by simpa using hi
          have hlt : i < xs.length := by rw [hxl]; exact (Array.getElem?_eq_some_iff.1 hi').1
          exact ⟨xs[i], by rw [hfs i f hi', List.getElem?_eq_getElem hlt]⟩
        exact ⟨.agg ps, by simpa using g1, .struct hu (by simpa using g2) fun i f p hi hp => g3 i f p (by simpa using hi) hp⟩

theorem fits_wide {base : Nat} {t : TypeId} {v : Value} (hL : tysOk P L = true) (ht : t ∈ L) (h : Value.okWide P W .any base t v) : Fits (sdOf P t) v v.cells.toList := by
  have hty := List.all_eq_true.1 hL t ht
  unfold tyIn at hty
  unfold sdOf sdT
  cases hu : P.underlying t with
  | none => simp [hu] at hty
  | some y =>
    simp only [Value.okWide, hu] at h
    cases y <;> simp only [hu] at hty <;> try (cases hty; done)
    case struct fs =>
      obtain ⟨cs, rfl, _⟩ := h
      refine .inl ⟨?_, by simp [Value.cells]⟩
      simp only
      cases fs.toList <;> rfl
    all_goals
      refine .inr ⟨rfl, ?_⟩
      simp only [Cell.okWide, hu] at h
      cases v <;> first | rfl | (simp_all [Cell.ok, Value.cells]; done)

theorem args_ok (hL : tysOk P L = true) {base : Nat} : ∀ {ts : List TypeId} {vs : List Value} {ds : List (DataW H)} {q : List MemPlace}, (∀ t ∈ ts, t ∈ L) → DataW.TrodAll enc P W 0 (fun _ => true) true ts vs ds q →
    (∀ (j : Nat) t v, ts[j]? = some t → vs[j]? = some v → Value.okWide P W .any base t v) →
    vs.length = ts.length ∧ (∀ x ∈ q, x.block < W.heap.size) ∧ ∃ ps : List PV, ps.length = ts.length ∧ (∀ (j : Nat) t v p, ts[j]? = some t → vs[j]? = some v → ps[j]? = some p → ∃ cs, Fits (sdOf P t) v cs ∧ R P W (fun b => b < W.heap.size) (sdOf P t) cs p Set.none) ∧
      ∀ (j : Nat) t p, ts[j]? = some t → ps[j]? = some p → WfT P t p
  | [], vs, ds, q, _, h, _ => by
    obtain ⟨rfl, rfl, rfl⟩ := trodAll_nil h
    exact ⟨rfl, fun x hx => (by cases hx), [], rfl, fun j t v p h => by simp at h, fun j t p h => by simp at h⟩
  | t :: ts, vs, ds, q, hts, h, hv => by
    obtain ⟨v, vs', d, ds', p, q', rfl, rfl, rfl, h1, h2⟩ := trodAll_cons h
    obtain ⟨g1, g2, ps, g3, g4, g5⟩ := args_ok hL (fun t' ht' => hts t' (by simp [ht'])) h2 fun j t' v' hj hj' => hv (j + 1) t' v' (by simpa using hj) (by simpa using hj')
    obtain ⟨fuel, hf⟩ := h1
    obtain ⟨p0, k1, k2⟩ := opensR hL fuel t _ _ (hts t (by simp)) hf
    refine ⟨by simp [g1], fun x hx => ?_, p0 :: ps, by simp [g3], fun j t' v' p' hj hj' hp => ?_, fun j t' p' hj hp => ?_⟩
    · rcases List.mem_append.1 hx with hx | hx
      · exact DataW.trod_lt fuel _ _ _ hf x hx
      · exact g2 x hx
    · cases j with
      | zero =>
        simp at hj hj' hp; subst hj; subst hj'; subst hp
        exact ⟨_, fits_wide hL (hts t (by simp)) (hv 0 t v rfl rfl), k1⟩
      | succ j => exact g4 j t' v' p' (by simpa using hj) (by simpa using hj') (by simpa using hp)
    · cases j with
      | zero => simp at hj hp; subst hj; subst hp; exact k2
      | succ j => exact g5 j t' p' (by simpa using hj) (by simpa using hp)

theorem trodAll_len {w : World} {base : Nat} {spare : Nat → Bool} {held : Bool} : ∀ {ts : List TypeId} {vs : List Value} {ds : List (DataW H)} {q : List MemPlace}, DataW.TrodAll enc P w base spare held ts vs ds q → ds.length = ts.length
  | [], vs, ds, q, h => by
    obtain ⟨_, rfl, _⟩ := trodAll_nil h
    rfl
  | t :: ts, vs, ds, q, h => by
    obtain ⟨v, vs', d, ds', p, q', rfl, rfl, rfl, _, h2⟩ := trodAll_cons h
    simp [trodAll_len h2]
theorem trodAll_below (hl : laidOutB P = true) {W' : World} (hb : Below W.heap.size W W') : ∀ {ts : List TypeId} {vs : List Value} {ds : List (DataW H)} {q : List MemPlace}, ts.all (fun t => P.readableRec t && Nat.blt t P.types.size) = true →
    DataW.TrodAll enc P W 0 (fun _ => true) true ts vs ds q → (∀ x ∈ q, x.block < W.heap.size) → DataW.TrodAll enc P W' 0 (fun b => decide (b < W.heap.size)) true ts vs ds q
  | [], vs, ds, q, _, h, _ => by
    obtain ⟨rfl, rfl, rfl⟩ := trodAll_nil h
    rfl
  | t :: ts, vs, ds, q, hr, h, hlt => by
    simp only [List.all_cons, Bool.and_eq_true] at hr
    obtain ⟨v, vs', d, ds', p, q', rfl, rfl, rfl, h1, h2⟩ := trodAll_cons h
    exact ⟨p, q', Below.trod hl hr.1.1 (Nat.le_of_ble_eq_true hr.1.2) h1 hb (fun x hx => hlt x (by simp [hx])), trodAll_below hl hb (by simpa using hr.2) h2 (fun x hx => hlt x (by simp [hx])), rfl⟩
end

section
variable {P : Program} {sg : FuncId → Option Sig} {Tb : FuncId → Option FD} {W : World}

theorem flat_ro : ∀ (ds : List SD) (i : Nat), flatP (ds.map PM.ro) i = (List.range ds.length).map (fun j => (i + j, PM.ro (ds.getD j .bool)))
  | [], i => rfl
  | d :: ds, i => by
    simp only [List.map_cons, flatP, List.length_cons, List.range_succ_eq_map, flat_ro ds (i + 1), List.map_map]
    congr 1
    refine List.map_congr_left fun j _ => ?_
    simp [Function.comp, Nat.add_assoc, Nat.add_comm 1 j]

theorem var_lt {W : World} {nm : String} {g : Nat} {cs : Array Value} (hg : P.globalNamed nm = some g) (h : W.var? P nm = some cs) : g < W.heap.size := by
  unfold World.var? at h
  rw [hg] at h
  simp only [Option.bind_some] at h
  split at h
  · rename_i e
    exact (Array.getElem?_eq_some_iff.1 e).1
  · cases h
theorem kp_of {W : World} (h : ∀ g, P.globalNamed "internal/strconv.uint64pow10" = some g → Lib.TabIs P W "internal/strconv.uint64pow10" .u64 Lib.pow10Tab) (he : ∀ nm g, (nm = "strconv.ErrSyntax" ∨ nm = "strconv.ErrRange") → P.globalNamed nm = some g → ∃ t p, W.var? P nm = some #[.iface t p]) : Kp P W (fun b => b < W.heap.size) :=
  ⟨fun g hg => ⟨var_lt hg (h g hg), h g hg⟩, fun nm g hn hg => by
    obtain ⟨t, p, h1⟩ := he nm g hn hg
    exact ⟨var_lt hg h1, t, p, h1⟩⟩
/-- Where the program has no such variables. -/
theorem err_none {W : World} (h1 : P.globalNamed "strconv.ErrSyntax" = none) (h2 : P.globalNamed "strconv.ErrRange" = none) : ∀ nm g, (nm = "strconv.ErrSyntax" ∨ nm = "strconv.ErrRange") → P.globalNamed nm = some g → ∃ t p, W.var? P nm = some #[.iface t p] := by
  rintro nm g (rfl | rfl) hg
  · rw [h1] at hg; cases hg
  · rw [h2] at hg; cases hg

theorem law_calls (hm : P.follows .mixedOrders = true) (hO : Good P sg (orcI sg)) (hK : Kp P W (fun b => b < W.heap.size)) (hT : ∀ f d, Tb f = some d → compF P sg f = some d) {f : FuncId} {ts : List TypeId} (hf : f < 4096) (hs : sg f = some { ps := ts.map fun t => .ro (sdOf P t), rs := [.v .bool] })
    {args : List Value} {ps : List PV} (hl : args.length = ts.length) (hl2 : ps.length = ts.length) (hR : ∀ (j : Nat) t v p, ts[j]? = some t → args[j]? = some v → ps[j]? = some p → ∃ cs, Fits (sdOf P t) v cs ∧ R P W (fun b => b < W.heap.size) (sdOf P t) cs p Set.none)
    {n : Nat} (hrun : prun Tb (orcI sg) n f ps = some [.bool true]) : Calls P f args.toArray W fun e W' => e = .returned (.bool true) ∧ Below W.heap.size W W' := by
  have hc := prun_good (sg := sg) hm hT hO n f _ _ _ hs hrun
  rw [Nat.mod_eq_of_lt hf] at hc
  have hflat : flatP (ts.map fun t => PM.ro (sdOf P t)) 0 = (List.range ts.length).map (fun j => (j, PM.ro (sdOf P (ts.getD j 0)))) := by
    have e : (ts.map fun t => PM.ro (sdOf P t)) = (ts.map (sdOf P)).map PM.ro := by simp
    rw [e, flat_ro, List.length_map]
    refine List.map_congr_left fun j hj => ?_
    have hlt : j < ts.length := List.mem_range.1 hj
    simp [List.getD_eq_getElem?_getD, hlt]
  have hmem : ∀ m pm, (m, pm) ∈ flatP (ts.map fun t => PM.ro (sdOf P t)) 0 → m < ts.length ∧ pm = .ro (sdOf P (ts.getD m 0)) := by
    intro m pm hmem
    rw [hflat] at hmem
    obtain ⟨j, hj, e⟩ := List.mem_map.1 hmem
    simp only [Prod.mk.injEq] at e
    obtain ⟨rfl, rfl⟩ := e
    exact ⟨List.mem_range.1 hj, rfl⟩
  have cin : CIn P W (fun b => b < W.heap.size) (ts.map fun t => PM.ro (sdOf P t)) (fun m => args.getD m undef) (fun m => ps.getD m .unit) (fun _ => Set.none) := by
    refine { arg := fun m pm h => ?_, clo := fun i f cs h => ?_, non := fun m _ b hb => hb, dj := fun m m' b hb => hb.elim, sF := fun m b hb => hb.elim, sz := fun m b hb => hb.elim, fz := fun b hb => hb, kp := hK }
    · obtain ⟨h1, rfl⟩ := hmem m pm h
      exact hR m _ _ _ (getD_some h1 0) (getD_some (by omega) undef) (getD_some (by omega) PV.unit)
    · rw [List.getElem?_map] at h
      obtain ⟨t, _, e⟩ := Option.map_eq_some_iff.1 h
      cases e
  have h1 := hc W _ _ _ _ cin (by
    simp only [hflat, List.map_map]
    refine List.ext_getElem? fun j => ?_
    rw [List.getElem?_map]
    by_cases hj : j < ts.length
    · simp [hj, List.getD_eq_getElem?_getD, hl2]
    · have h1 : ps[j]? = none := by rw [List.getElem?_eq_none_iff]; omega
      simp [hj, h1])
  simp only [List.length_map] at h1
  have hargs : ((List.range ts.length).map fun m => args.getD m undef).toArray = args.toArray := by
    congr 1
    refine List.ext_getElem? fun j => ?_
    rw [List.getElem?_map]
    by_cases hj : j < ts.length
    · simp [hj, List.getD_eq_getElem?_getD, hl]
    · have h1 : args[j]? = none := by rw [List.getElem?_eq_none_iff]; omega
      simp [hj, h1]
  rw [hargs] at h1
  refine h1.mono fun e W' ⟨F1, X', T', rvs, rps, U, he, gr, co, hos⟩ => ?_
  have hout : outNs (ts.map fun t => PM.ro (sdOf P t)) = [] := by
    unfold outNs
    have : (flatP (ts.map fun t => PM.ro (sdOf P t)) 0).filter (fun q => backM q.2) = [] := by
      rw [List.filter_eq_nil_iff]
      rintro ⟨m, pm⟩ hq
      obtain ⟨_, rfl⟩ := hmem m pm hq
      simp [backM]
    rw [this]; rfl
  rw [hout] at hos
  simp only [List.map_nil, List.append_nil] at hos
  subst hos
  have hlv := co.lv
  simp only [List.length_cons, List.length_nil] at hlv
  obtain ⟨v, rfl⟩ : ∃ v, rvs = [v] := List.length_eq_one_iff.1 hlv
  obtain ⟨cs, g1, g2⟩ := co.res 0 (.v .bool) rfl
  obtain ⟨b, g3, g4⟩ := R.isBool g1 g2
  simp only [List.getD_cons_zero, PV.bool.injEq] at g3 g4
  subst g4
  refine ⟨by rw [he, retV, g3], ⟨co.ext.os, co.ext.tape, co.ext.output, co.ext.size, fun k hk => co.ext.block k hk ?_⟩⟩
  rintro ⟨m, hm⟩
  exact hm
end
end Go.Rsc
