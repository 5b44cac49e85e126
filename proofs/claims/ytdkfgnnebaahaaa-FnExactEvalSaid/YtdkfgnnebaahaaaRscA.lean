/- Values of Go data as trees, shapes of memory with what is owned of it, and what it means that cells hold a tree. No conditions. -/
import Derived.Below
import Derived.Laws.AppendOwn
import Derived.Laws.OwnMore
import Derived.Laws.Cells
namespace Go.Rsc
open Go.RowKit
set_option linter.unusedVariables false

inductive PV where
  | unit
  | int (n : Int)
  | bool (b : Bool)
  | str (s : ByteArray)
  | list (l : List PV)
  | agg (l : List PV)
  deriving Inhabited

namespace PV
def toInt : PV → Int
  | .int n => n
  | _ => 0
def toBool : PV → Bool
  | .bool b => b
  | _ => false
def toStr : PV → ByteArray
  | .str s => s
  | _ => .empty
def toList : PV → List PV
  | .list l => l
  | _ => []
def toAgg : PV → List PV
  | .agg l => l
  | _ => []
def fld (p : PV) (i : Nat) : PV := p.toAgg.getD i .unit
def setFld (p : PV) (i : Nat) (q : PV) : PV := .agg (p.toAgg.set i q)
def get : PV → List Nat → PV
  | p, [] => p
  | p, i :: π => (p.fld i).get π
def put : PV → List Nat → PV → PV
  | _, [], q => q
  | p, i :: π, q => p.setFld i ((p.fld i).put π q)
def isB (p : PV) (b : Bool) : Bool := match p with
  | .bool c => c == b
  | _ => false
end PV

/-- Shapes: what cells are, and what is owned behind them. -/
inductive SD where
  | int (k : IntKind)
  | bool
  | str
  | bor (e : TypeId)
  | nl
  | own (e : TypeId) (m : Bool)
  | mz
  | mp (vb : Bool)
  | sb (e : TypeId)
  | ifc
  | np
  | fp (t : TypeId)
  | sn
  | sc (d ds : SD)
  | dead (n : Nat)
  deriving DecidableEq, Repr, Inhabited

namespace SD
def sz : SD → Nat
  | .sn => 0
  | .sc d ds => d.sz + ds.sz
  | .dead n => n
  | _ => 1
def isAgg : SD → Bool
  | .sn | .sc _ _ => true
  | _ => false
/-- Nothing is owned behind it. -/
def plain : SD → Bool
  | .own _ _ | .dead _ | .mp _ | .sb _ => false
  | .sc d ds => d.plain && ds.plain
  | _ => true
def nth : SD → Nat → Option SD
  | .sc d _, 0 => some d
  | .sc _ ds, i + 1 => ds.nth i
  | _, _ => none
def offN : SD → Nat → Nat
  | .sc _ _, 0 => 0
  | .sc d ds, i + 1 => d.sz + ds.offN i
  | _, _ => 0
def setN : SD → Nat → SD → SD
  | .sc _ ds, 0, x => .sc x ds
  | .sc d ds, i + 1, x => .sc d (ds.setN i x)
  | s, _, _ => s
def get : SD → List Nat → Option SD
  | d, [] => some d
  | d, i :: π => (d.nth i).bind fun x => x.get π
def off : SD → List Nat → Nat
  | _, [] => 0
  | d, i :: π => d.offN i + (match d.nth i with | some x => x.off π | none => 0)
def put : SD → List Nat → SD → SD
  | _, [], x => x
  | d, i :: π, x => match d.nth i with
    | some y => d.setN i (y.put π x)
    | none => d
end SD

/-- Types whose pointers are shared, what is behind them only read; two that may lead to each other (a frame's names; a function's value): the frame's field 1 is the value, the value's last field but none is the frame. -/
def fpTs : List TypeId := [83, 85]
def cycE : TypeId := 85
def cycV : TypeId := 83
def cycJ : Nat := 6
def isFp (t : TypeId) : Bool := fpTs.any (Nat.beq t)
/-- Rows' elements behind which no such pointer lies. -/
def ptFree : List TypeId := [24, 28, 3, 35, 51, 97, 9, 5, 71]
def inPt (e : TypeId) : Bool := fpTs.isEmpty || ptFree.any (Nat.beq e)
def ptClo (P : Program) : Nat → TypeId → Bool
  | 0, _ => false
  | n + 1, t => match P.underlying t with
    | some (.slice e) => inPt e
    | some (.struct fs) => fs.toList.all fun f => ptClo P n f.type
    | some (.pointer e) => !isFp e
    | _ => true
def ptOk (P : Program) : Bool := fpTs.isEmpty || ptFree.all fun e => ptClo P 8 e

/-- Whether a slice lies somewhere in a type's cells. -/
def hasSl (P : Program) : Nat → TypeId → Bool
  | 0, _ => false
  | n + 1, t => match P.underlying t with
    | some (.slice _) => true
    | some (.struct fs) => fs.toList.any fun f => hasSl P n f.type
    | _ => false
/-- The shape of data of a type: slices only read, or (o) all owned. -/
def sdT (P : Program) (o : Bool) : Nat → TypeId → SD
  | 0, t => .dead (P.cellsOf t)
  | n + 1, t => match P.underlying t with
    | some (.int k) => .int k
    | some .bool => .bool
    | some .string => .str
    | some (.slice e) => if o then .own e (hasSl P 8 e) else .bor e
    | some (.struct fs) => fs.toList.foldr (fun f acc => .sc (sdT P o n f.type) acc) .sn
    | some (.pointer e) => if isFp e then .fp e else .dead (P.cellsOf t)
    | _ => .dead (P.cellsOf t)
def sdOf (P : Program) (t : TypeId) : SD := sdT P false 8 t
/-- The shape of an owned row's elements. -/
def el (P : Program) (m : Bool) (e : TypeId) : SD := sdT P m 8 e

abbrev Set := Nat → Prop
def Set.none : Set := fun _ => False

/-- These cells lie one behind the other from an address on, in blocks of F. -/
def CellsAt (w : World) (F : Set) (A : Option Addr) (off : Nat) (cs : List Value) : Prop :=
  ∀ i u, cs[i]? = some u → ∃ ad, A = some ad ∧ F ad.block ∧ w.cell? (ad.add (off + i)) = some u

def elemAt (cs : List Value) (sz j : Nat) : List Value := (cs.drop (j * sz)).take sz

/-- What a map holds for a key. -/
def MVal (vb : Bool) (x : PV) (v : Value) : Prop := if vb then ∃ b, x = .bool b ∧ v = .bool b else ∃ n, x = .int n ∧ v = .int .i64 n
/-- A map's entries: whole numbers, with a truth value (vb) or a whole number each. -/
inductive MapIs (vb : Bool) : List MapEntry → List PV → Prop where
  | nil : MapIs vb [] []
  | cons {e es k x ps} : e.key = .int .i64 k → MVal vb x e.val → MapIs vb es ps → MapIs vb (e :: es) (.agg [.int k, x] :: ps)

/-- Cells hold a tree: what is owned behind them lies within S, what is only read within F. -/
inductive R (P : Program) (w : World) (F : Set) : SD → List Value → PV → Set → Prop where
  | int (k n S) : R P w F (.int k) [.int k n] (.int n) S
  | bool (b S) : R P w F .bool [.bool b] (.bool b) S
  | str (s S) : R P w F .str [.string s] (.str s) S
  | dead (n cs p S) : cs.length = n → R P w F (.dead n) cs p S
  | bor (e A n c ps S) (css : Nat → List Value) : ps.length = n → n ≤ c →
      (∀ j, j < n → (css j).length = (sdOf P e).sz) → (∀ j, j < n → CellsAt w F A (j * (sdOf P e).sz) (css j)) →
      (∀ (j : Nat) (p : PV), ps[j]? = some p → R P w F (sdOf P e) (css j) p Set.none) → R P w F (.bor e) [.slice A n c] (.list ps) S
  | nl (S) : R P w F .nl [.slice none 0 0] (.list []) S
  | onil (e m S) : R P w F (.own e m) [.slice none 0 0] (.list []) S
  | own (e m b n c arr ps S) (Ss : Nat → Set) : w.heap[b]? = some (.cells arr e (0, 0)) → n ≤ c → c ≤ maxLen → arr.size = c * (el P m e).sz → ps.length = n → 0 < (el P m e).sz →
      S b → (∀ j x, Ss j x → S x) → (∀ j x, Ss j x → x ≠ b) → (∀ i j x, Ss i x → Ss j x → i = j) →
      (∀ (j : Nat) (p : PV), ps[j]? = some p → R P w F (el P m e) (elemAt arr.toList (el P m e).sz j) p (Ss j)) → R P w F (.own e m) [.slice (some ⟨b, 0, none⟩) n c] (.list ps) S
  | mz (S) : R P w F .mz [.map none] (.list []) S
  | mp (vb b es clk ps S) : w.heap[b]? = some (.map es clk) → MapIs vb es.toList ps → S b → R P w F (.mp vb) [.map (some b)] (.list ps) S
  | sb (e b n c arr fr ps S) : w.heap[b]? = some (.cells arr e fr) → (arr.size ≤ fr.1 ∨ fr = (0, 0)) → n ≤ c → c ≤ maxLen → arr.size = c → ps.length = n → sdOf P e = .int .u8 → S b →
      (∀ (j : Nat) (p : PV), ps[j]? = some p → ∃ x, p = .int x ∧ arr[j]? = some (.int .u8 x)) → R P w F (.sb e) [.slice (some ⟨b, 0, none⟩) n c] (.list ps) S
  | inil (S) : R P w F .ifc [.nilIface] (.bool true) S
  | isome (t v S) : R P w F .ifc [.iface t v] (.bool false) S
  | np (S) : R P w F .np [.pointer none] (.list []) S
  | fnil (t S) : R P w F (.fp t) [.pointer none] (.list []) S
  | fp (t b arr p S) : w.heap[b]? = some (.cells arr t (0, 0)) → F b → R P w F (sdOf P t) arr.toList p Set.none → R P w F (.fp t) [.pointer (some ⟨b, 0, none⟩)] (.list [p]) S
  | frec (b c s u pu arrV pV S) : (sdOf P cycE = .sc .str (.sc (.fp cycV) (.sc (.fp cycE) .sn)) ∧ (sdOf P cycV).nth cycJ = some (.fp cycE)) → w.heap[b]? = some (.cells #[.string s, .pointer (some ⟨c, 0, none⟩), u] cycE (0, 0)) → w.heap[c]? = some (.cells arrV cycV (0, 0)) → F b → F c →
      R P w F (.fp cycE) [u] pu Set.none → R P w F ((sdOf P cycV).put [cycJ] (.dead 1)) arrV.toList pV Set.none → arrV.toList[(sdOf P cycV).offN cycJ]? = some (.pointer (some ⟨b, 0, none⟩)) →
      R P w F (.fp cycE) [.pointer (some ⟨b, 0, none⟩)] (.list [.agg [.str s, .agg [pV], pu]]) S
  | sn (S) : R P w F .sn [] (.agg []) S
  | sc (d ds c cs p ps S S1 S2) : R P w F d c p S1 → R P w F ds cs (.agg ps) S2 → (∀ x, S1 x → S x) → (∀ x, S2 x → S x) → (∀ x, S1 x → S2 x → False) →
      R P w F (.sc d ds) (c ++ cs) (.agg (p :: ps)) S

section
variable {P : Program} {w w' : World} {F F' : Set} {d : SD} {cs : List Value} {p : PV} {S S' : Set}

theorem elemAt_length {arr : List Value} {sz j n : Nat} (h : arr.length = n * sz) (hj : j < n) : (elemAt arr sz j).length = sz := by
  unfold elemAt
  have : j * sz + sz ≤ n * sz := by rw [← Nat.succ_mul]; exact Nat.mul_le_mul_right _ hj
  rw [List.length_take, List.length_drop]
  omega

theorem R.len (h : R P w F d cs p S) : cs.length = d.sz := by
  induction h with
  | sc d ds c cs p ps S S1 S2 _ _ _ _ _ ih1 ih2 => simp [SD.sz, ih1, ih2]
  | dead n cs p S h => simpa [SD.sz] using h
  | _ => rfl

theorem CellsAt.imp {A : Option Addr} {o : Nat} (h : CellsAt w F A o cs) (hF : ∀ b, F b → F' b) (hw : ∀ b, F b → w'.heap[b]? = w.heap[b]?) : CellsAt w' F' A o cs := by
  intro i u hu
  obtain ⟨ad, e, hf, hc⟩ := h i u hu
  refine ⟨ad, e, hF _ hf, ?_⟩
  have hb : (ad.add (o + i)).block = ad.block := by unfold Addr.add; split <;> rfl
  rw [World.cell?_of_block (w := w) (by rw [hb]; exact hw _ hf)]
  exact hc

/-- In a world that agrees on what it lies on, with wider bounds. -/
theorem R.imp (h : R P w F d cs p S) : ∀ {w' : World} {F' S' : Set}, (∀ b, F b → F' b) → (∀ b, S b → S' b) → (∀ b, F b ∨ S b → w'.heap[b]? = w.heap[b]?) → R P w' F' d cs p S' := by
  induction h with
  | int => intros; exact .int ..
  | bool => intros; exact .bool ..
  | str => intros; exact .str ..
  | dead n cs p S h => intros; exact .dead _ _ _ _ h
  | bor e A n c ps S css h1 h2 h3 h4 h5 ih =>
    intro w' F' S' hF hS hw
    exact .bor e A n c ps S' css h1 h2 h3 (fun j hj => (h4 j hj).imp hF (fun b hb => hw b (.inl hb)))
      (fun j p hp => ih j p hp hF (fun b hb => hb) (fun b hb => hw b (hb.elim .inl (fun h => h.elim))))
  | nl => intros; exact .nl _
  | onil => intros; exact .onil ..
  | own e m b n c arr ps S Ss h1 h2 h3 h4 h5 h6 h7 h8 h9 h10 h11 ih =>
    intro w' F' S' hF hS hw
    refine .own e m b n c arr ps S' Ss (by rw [hw b (.inr h7)]; exact h1) h2 h3 h4 h5 h6 (hS _ h7) (fun j x hx => hS _ (h8 j x hx)) h9 h10 (fun j p hp => ?_)
    exact ih j p hp hF (fun b hb => hb) (fun b hb => hw b (hb.imp_right (h8 j b)))
  | mz => intros; exact .mz _
  | mp vb b es clk ps S h1 h2 h3 =>
    intro w' F' S' hF hS hw
    exact .mp vb b es clk ps S' (by rw [hw b (.inr h3)]; exact h1) h2 (hS _ h3)
  | sb e b n c arr fr ps S h1 h2 h3 h4 h5 h6 h7 h8 h9 =>
    intro w' F' S' hF hS hw
    exact .sb e b n c arr fr ps S' (by rw [hw b (.inr h8)]; exact h1) h2 h3 h4 h5 h6 h7 (hS _ h8) h9
  | inil => intros; exact .inil _
  | isome => intros; exact .isome ..
  | np => intros; exact .np _
  | fnil => intros; exact .fnil ..
  | fp t b arr p S h1 h2 h3 ih =>
    intro w' F' S' hF hS hw
    exact .fp t b arr p S' (by rw [hw b (.inl h2)]; exact h1) (hF _ h2) (ih hF (fun _ h => h) (fun b hb => hb.elim (fun h => hw b (.inl h)) fun h => h.elim))
  | frec b c s u pu arrV pV S h0 h1 h2 h3 h4 h5 h6 h7 ih1 ih2 =>
    intro w' F' S' hF hS hw
    exact .frec b c s u pu arrV pV S' h0 (by rw [hw b (.inl h3)]; exact h1) (by rw [hw c (.inl h4)]; exact h2) (hF _ h3) (hF _ h4) (ih1 hF (fun _ h => h) (fun b hb => hb.elim (fun h => hw b (.inl h)) fun h => h.elim)) (ih2 hF (fun _ h => h) (fun b hb => hb.elim (fun h => hw b (.inl h)) fun h => h.elim)) h7
  | sn => intros; exact .sn _
  | sc d ds c cs p ps S S1 S2 _ _ h3 h4 h5 ih1 ih2 =>
    intro w' F' S' hF hS hw
    exact .sc d ds c cs p ps S' S1 S2 (ih1 hF (fun b hb => hb) (fun b hb => hw b (hb.imp_right (h3 b)))) (ih2 hF (fun b hb => hb) (fun b hb => hw b (hb.imp_right (h4 b))))
      (fun x hx => hS _ (h3 x hx)) (fun x hx => hS _ (h4 x hx)) h5

theorem R.wide (h : R P w F d cs p S) (hS : ∀ b, S b → S' b) : R P w F d cs p S' := h.imp (fun _ h => h) hS (fun _ _ => rfl)

/-- The shape for reading alone of what is owned. -/
def SD.ro : SD → SD
  | .own e _ => .bor e
  | .mp _ => .dead 1
  | .sb e => .bor e
  | .sc d ds => .sc d.ro ds.ro
  | d => d

theorem SD.ro_sz : ∀ d : SD, d.ro.sz = d.sz
  | .sc d ds => by simp only [SD.ro, SD.sz, SD.ro_sz d, SD.ro_sz ds]
  | .own _ _ | .dead _ | .int _ | .bool | .str | .bor _ | .nl | .mz | .mp _ | .sb _ | .ifc | .np | .fp _ | .sn => rfl
theorem sdT_ro (P : Program) (o : Bool) : ∀ n t, (sdT P o n t).ro = sdT P false n t
  | 0, t => rfl
  | n + 1, t => by
    unfold sdT
    cases P.underlying t with
    | none => rfl
    | some x =>
      cases x <;> try rfl
      case slice e => cases o <;> rfl
      case pointer e => simp only; split <;> rfl
      case struct fs =>
        simp only
        generalize fs.toList = l
        induction l with
        | nil => rfl
        | cons f l ih => simp only [List.foldr_cons, SD.ro, sdT_ro P o n f.type, ih]
theorem add_zero_off (b j : Nat) : (⟨b, 0, none⟩ : Addr).add j = ⟨b, j, none⟩ := by unfold Addr.add; split <;> simp_all

theorem cell_of_heap {arr : Array Value} {e : TypeId} {fr : Nat × Nat} {b j : Nat} {u : Value} (h : w.heap[b]? = some (.cells arr e fr)) (hu : arr[j]? = some u) : w.cell? ⟨b, j, none⟩ = some u := by
  simp [World.cell?, h, hu]

theorem elemAt_get {arr : Array Value} {sz j i : Nat} {u : Value} (h : (elemAt arr.toList sz j)[i]? = some u) : arr[j * sz + i]? = some u := by
  unfold elemAt at h
  rw [List.getElem?_take] at h
  split at h
  · rw [List.getElem?_drop] at h; simpa using h
  · cases h

theorem R.toRo (h : R P w F d cs p S) : ∀ {F' : Set}, (∀ b, F b → F' b) → (∀ b, S b → F' b) → R P w F' d.ro cs p Set.none := by
  induction h with
  | int => intros; exact .int ..
  | bool => intros; exact .bool ..
  | str => intros; exact .str ..
  | dead n cs p S h => intros; exact .dead _ _ _ _ h
  | bor e A n c ps S css h1 h2 h3 h4 h5 ih =>
    intro F' hF hS
    exact (R.bor (P := P) (w := w) (F := F) e A n c ps Set.none css h1 h2 h3 h4 h5).imp hF (fun b hb => hb) (fun _ _ => rfl)
  | nl => intros; exact .nl _
  | onil e m S =>
    intro F' hF hS
    exact .bor e none 0 0 [] _ (fun _ => []) rfl (Nat.le_refl _) (fun j hj => by omega) (fun j hj => by omega) (fun j p hp => by simp at hp)
  | own e m b n c arr ps S Ss h1 h2 h3 h4 h5 h6 h7 h8 h9 h10 h11 ih =>
    intro F' hF hS
    have hd : (el P m e).ro = sdOf P e := sdT_ro P m 8 e
    have hsz : (sdOf P e).sz = (el P m e).sz := by rw [← hd, SD.ro_sz]
    refine .bor e (some ⟨b, 0, none⟩) n c ps _ (fun j => elemAt arr.toList (el P m e).sz j) h5 h2 (fun j hj => ?_) (fun j hj i u hu => ?_) (fun j p hp => ?_)
    · rw [hsz]; exact elemAt_length (n := c) (by simpa using h4) (by omega)
    · exact ⟨_, rfl, hS _ h7, by rw [hsz, add_zero_off]; exact cell_of_heap h1 (elemAt_get hu)⟩
    · rw [← hd]; exact ih j p hp hF (fun b hb => hS _ (h8 j b hb))
  | mz => intros; exact .mz _
  | mp => intros; exact .dead _ _ _ _ rfl
  | sb e b n c arr fr ps S h1 h2 h3 h4 h5 h6 h7 h8 h9 =>
    intro F' hF hS
    have hsz : (sdOf P e).sz = 1 := by rw [h7]; rfl
    refine .bor e (some ⟨b, 0, none⟩) n c ps _ (fun j => elemAt arr.toList 1 j) h6 h3 (fun j hj => ?_) (fun j hj i u hu => ?_) (fun j p hp => ?_)
    · rw [hsz]; exact elemAt_length (n := c) (by simpa using h5) (by omega)
    · exact ⟨_, rfl, hS _ h8, by rw [hsz, add_zero_off]; exact cell_of_heap h1 (elemAt_get hu)⟩
    · obtain ⟨x, rfl, hx⟩ := h9 j p hp
      have he : elemAt arr.toList 1 j = [.int .u8 x] := by
        unfold elemAt
        rw [Nat.mul_one]
        have hj : arr.toList[j]? = some (.int .u8 x) := by rw [Array.getElem?_toList]; exact hx
        obtain ⟨hl, hy⟩ := List.getElem?_eq_some_iff.1 hj
        rw [List.drop_eq_getElem_cons hl, hy]
        rfl
      rw [he, h7]
      exact .int ..
  | inil => intros; exact .inil _
  | isome => intros; exact .isome ..
  | np => intros; exact .np _
  | fnil => intros; exact .fnil ..
  | fp t b arr p S h1 h2 h3 ih =>
    intro F' hF hS
    exact .fp t b arr p _ h1 (hF _ h2) (h3.imp hF (fun _ h => h) (fun _ _ => rfl))
  | frec b c s u pu arrV pV S h0 h1 h2 h3 h4 h5 h6 h7 ih1 ih2 =>
    intro F' hF hS
    exact .frec b c s u pu arrV pV _ h0 h1 h2 (hF _ h3) (hF _ h4) (h5.imp hF (fun _ h => h) (fun _ _ => rfl)) (h6.imp hF (fun _ h => h) (fun _ _ => rfl)) h7
  | sn => intros; exact .sn _
  | sc d ds c cs p ps S S1 S2 _ _ h3 h4 h5 ih1 ih2 =>
    intro F' hF hS
    exact .sc d.ro ds.ro c cs p ps _ _ _ (ih1 hF (fun b hb => hS _ (h3 b hb))) (ih2 hF (fun b hb => hS _ (h4 b hb))) (fun _ h => h) (fun _ h => h) (fun _ h _ => h)

/-- A field: what it holds, and that another thing may be put in its place. -/
theorem R.nth (h : R P w F d cs p S) : ∀ {i : Nat} {x : SD}, d.nth i = some x → ∃ (pre c1 post : List Value) (S1 : Set), cs = pre ++ c1 ++ post ∧ pre.length = d.offN i ∧ R P w F x c1 (p.fld i) S1 ∧ (∀ b, S1 b → S b) ∧
    ∀ {w' : World} {F' : Set} {x' : SD} {c1' : List Value} {q : PV} {S1' : Set}, (∀ b, F b → F' b) → (∀ b, F b ∨ (S b ∧ ¬ S1 b) → w'.heap[b]? = w.heap[b]?) → R P w' F' x' c1' q S1' → (∀ b, S1' b → S b → S1 b) →
      R P w' F' (d.setN i x') (pre ++ c1' ++ post) (p.setFld i q) (fun b => (S b ∧ ¬ S1 b) ∨ S1' b) := by
  induction h with
  | sc d ds c cs p ps S S1 S2 h1 h2 h3 h4 h5 ih1 ih2 =>
    intro i x hx
    cases i with
    | zero =>
      simp only [SD.nth, Option.some.injEq] at hx
      subst hx
      refine ⟨[], c, cs, S1, rfl, rfl, h1, h3, fun {w' F' x' c1' q S1'} hF hw hr hd => ?_⟩
      refine R.sc x' ds c1' cs q ps _ S1' S2 hr (h2.imp hF (fun b hb => hb) (fun b hb => hw b ?_)) (fun b hb => .inr hb) (fun b hb => .inl ⟨h4 b hb, fun h => h5 b h hb⟩) (fun b hb hb2 => h5 b (hd b hb (h4 b hb2)) hb2)
      exact hb.imp_right fun hb => ⟨h4 b hb, fun h => h5 b h hb⟩
    | succ i =>
      simp only [SD.nth] at hx
      obtain ⟨pre, c1, post, T, rfl, hl, hr, hT, wand⟩ := ih2 hx
      refine ⟨c ++ pre, c1, post, T, by simp [List.append_assoc], by simp [SD.offN, hl, h1.len], hr, fun b hb => h4 b (hT b hb), fun {w' F' x' c1' q S1'} hF hw hr' hd => ?_⟩
      have h6 := wand (w' := w') (F' := F') (x' := x') (c1' := c1') (q := q) (S1' := S1') hF (fun b hb => hw b (hb.imp_right fun ⟨x, y⟩ => ⟨h4 b x, y⟩)) hr' (fun b hb hb2 => hd b hb (h4 b hb2))
      have h7 : R P w' F' (d.sc (ds.setN i x')) (c ++ (pre ++ c1' ++ post)) (.agg (p :: ps.set i q)) (fun b => (S b ∧ ¬ T b) ∨ S1' b) := by
        refine R.sc d (ds.setN i x') c (pre ++ c1' ++ post) p (ps.set i q) _ S1 _ (h1.imp hF (fun b hb => hb) (fun b hb => hw b (hb.imp_right fun hb => ⟨h3 b hb, fun h => h5 b hb (hT b h)⟩))) h6
          (fun b hb => .inl ⟨h3 b hb, fun h => h5 b hb (hT b h)⟩) (fun b hb => hb.elim (fun hb => .inl ⟨h4 b hb.1, hb.2⟩) .inr) (fun b hb hb2 => ?_)
        rcases hb2 with hb2 | hb2
        · exact h5 b hb hb2.1
        · exact h5 b hb (hT b (hd b hb2 (h3 b hb)))
      simpa [List.append_assoc, SD.setN, PV.setFld, PV.toAgg] using h7
  | _ => intro i x hx; simp [SD.nth] at hx

theorem R.focus : ∀ (π : List Nat) {d : SD} {cs : List Value} {p : PV} {S : Set} {x : SD}, R P w F d cs p S → d.get π = some x → ∃ (pre c1 post : List Value) (S1 : Set), cs = pre ++ c1 ++ post ∧ pre.length = d.off π ∧ R P w F x c1 (p.get π) S1 ∧ (∀ b, S1 b → S b) ∧
    ∀ {w' : World} {F' : Set} {x' : SD} {c1' : List Value} {q : PV} {S1' : Set}, (∀ b, F b → F' b) → (∀ b, F b ∨ (S b ∧ ¬ S1 b) → w'.heap[b]? = w.heap[b]?) → R P w' F' x' c1' q S1' → (∀ b, S1' b → S b → S1 b) →
      R P w' F' (d.put π x') (pre ++ c1' ++ post) (p.put π q) (fun b => (S b ∧ ¬ S1 b) ∨ S1' b)
  | [], d, cs, p, S, x, h, hx => by
    simp only [SD.get, Option.some.injEq] at hx
    subst hx
    exact ⟨[], cs, [], S, by simp, rfl, h, fun b hb => hb, fun {w' F' x' c1' q S1'} hF hw hr hd => by have := hr.wide (S' := fun b => (S b ∧ ¬ S b) ∨ S1' b) (fun b hb => .inr hb); simpa only [SD.put, PV.put, List.nil_append, List.append_nil] using this⟩
  | i :: π, d, cs, p, S, x, h, hx => by
    simp only [SD.get] at hx
    obtain ⟨y, hy, hx⟩ := Option.bind_eq_some_iff.1 hx
    obtain ⟨pre0, c0, post0, S0, rfl, hl0, hr0, hS0, wand0⟩ := h.nth hy
    obtain ⟨pre1, c1, post1, S1, rfl, hl1, hr1, hS1, wand1⟩ := R.focus π hr0 hx
    refine ⟨pre0 ++ pre1, c1, post1 ++ post0, S1, by simp [List.append_assoc], by simp [SD.off, hy, hl0, hl1], hr1, fun b hb => hS0 b (hS1 b hb), fun {w' F' x' c1' q S1'} hF hw hr hd => ?_⟩
    have h1 := wand1 (w' := w') (F' := F') (x' := x') (c1' := c1') (q := q) (S1' := S1') hF (fun b hb => hw b (hb.imp_right fun ⟨x, y⟩ => ⟨hS0 b x, y⟩)) hr (fun b hb hb2 => hd b hb (hS0 b hb2))
    have h2 := wand0 (w' := w') (F' := F') hF (fun b hb => hw b (hb.imp_right fun ⟨x, y⟩ => ⟨x, fun z => y (hS1 b z)⟩)) h1 (fun b hb hb2 => ?_)
    · have h3 := h2.wide (S' := fun b => (S b ∧ ¬ S1 b) ∨ S1' b) (fun b hb => ?_)
      · simpa [List.append_assoc, SD.put, hy, PV.put] using h3
      · rcases hb with ⟨x, y⟩ | ⟨x, y⟩ | x
        · exact .inl ⟨x, fun z => y (hS1 b z)⟩
        · exact .inl ⟨hS0 b x, y⟩
        · exact .inr x
    · rcases hb with hb | hb
      · exact hb.1
      · exact hS1 b (hd b hb hb2)

/-- An element of an owned row. -/
theorem R.idx {e : TypeId} {m : Bool} {v : Value} {ps : List PV} (h : R P w F (.own e m) [v] (.list ps) S) {j : Nat} {p : PV} (hj : ps[j]? = some p) :
    ∃ (b c : Nat) (arr : Array Value) (S1 : Set), v = .slice (some ⟨b, 0, none⟩) ps.length c ∧ w.heap[b]? = some (.cells arr e (0, 0)) ∧ S b ∧ (∀ x, S1 x → S x) ∧ ¬ S1 b ∧ arr.size = c * (el P m e).sz ∧ ps.length ≤ c ∧ c ≤ maxLen ∧ 0 < (el P m e).sz ∧
      R P w F (el P m e) (elemAt arr.toList (el P m e).sz j) p S1 ∧
      ∀ {w' : World} {F' : Set} {arr' : Array Value} {q : PV} {S1' : Set}, (∀ b, F b → F' b) → (∀ x, F x ∨ (S x ∧ ¬ S1 x ∧ x ≠ b) → w'.heap[x]? = w.heap[x]?) → w'.heap[b]? = some (.cells arr' e (0, 0)) → arr'.size = arr.size →
        (∀ i, i ≠ j → elemAt arr'.toList (el P m e).sz i = elemAt arr.toList (el P m e).sz i) → R P w' F' (el P m e) (elemAt arr'.toList (el P m e).sz j) q S1' → (∀ x, S1' x → S x → S1 x) →
        R P w' F' (.own e m) [v] (.list (ps.set j q)) (fun x => (S x ∧ ¬ S1 x) ∨ S1' x) := by
  cases h with
  | onil => simp at hj
  | own _ _ b n c arr _ _ Ss h1 h2 h3 h4 h5 h6 h7 h8 h9 h10 h11 =>
    subst h5
    refine ⟨b, c, arr, Ss j, rfl, h1, h7, h8 j, fun hb => h9 j b hb rfl, h4, h2, h3, h6, h11 j p hj, fun {w' F' arr' q S1'} hF hw hb hs he hr hd => ?_⟩
    refine .own e m b _ c arr' _ _ (fun i => if i = j then S1' else Ss i) hb h2 h3 (by rw [hs, h4]) (by simp) h6 (.inl ⟨h7, fun hb => h9 j b hb rfl⟩) (fun i x hx => ?_) (fun i x hx => ?_) (fun i i' x hx hx' => ?_) (fun i p' hp' => ?_)
    · by_cases hij : i = j
      · simp only [hij, if_true] at hx; exact .inr hx
      · simp only [hij, if_false] at hx; exact .inl ⟨h8 i x hx, fun hx2 => hij (h10 i j x hx hx2)⟩
    · by_cases hij : i = j
      · simp only [hij, if_true] at hx
        intro e; subst e
        exact h9 j x (hd x hx h7) rfl
      · simp only [hij, if_false] at hx; exact h9 i x hx
    · by_cases hij : i = j <;> by_cases hij' : i' = j
      · omega
      · simp only [hij, if_true] at hx; simp only [hij', if_false] at hx'
        exact absurd (h10 i' j x hx' (hd x hx (h8 i' x hx'))) hij'
      · simp only [hij', if_true] at hx'; simp only [hij, if_false] at hx
        exact absurd (h10 i j x hx (hd x hx' (h8 i x hx))) hij
      · simp only [hij, if_false] at hx; simp only [hij', if_false] at hx'
        exact h10 i i' x hx hx'
    · by_cases hij : i = j
      · subst hij
        rw [List.getElem?_set_self (List.getElem?_eq_some_iff.1 hj).1] at hp'
        simp only [Option.some.injEq] at hp'
        subst hp'
        simpa using hr
      · rw [List.getElem?_set_ne (Ne.symm hij)] at hp'
        simp only [hij, if_false]
        rw [he i hij]
        exact (h11 i p' hp').imp hF (fun b hb => hb) (fun x hx => hw x (hx.imp_right fun hx => ⟨h8 i x hx, fun hx2 => hij (h10 i j x hx hx2), h9 i x hx⟩))
end
end Go.Rsc
