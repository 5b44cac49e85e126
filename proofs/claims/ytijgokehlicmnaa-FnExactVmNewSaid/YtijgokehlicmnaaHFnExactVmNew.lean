/- What functions of the program and of the reference come to, for the law FnExactVmNew. Each under the conditions that it names. -/
import Derived.Test.YtijgokehlicmnaaEFnExactVmNew
namespace Go.Proofs.Ytijgokehlicmnaa.GFnExactVmNew
open Go Go.Rsc Go.Proofs.Ytijgokehlicmnaa
set_option maxRecDepth 100000
set_option linter.unusedVariables false
set_option linter.unusedSimpArgs false
/-! ### Roots -/
def allP (P : List Nat) (R : List Int) : Bool := R.all (there P)
theorem notThereI (P : List Nat) (w : Int) (hs : P.Pairwise (· < ·)) (hP : P.length ≤ 1048576) : Rn 161 [.int w, nats P] [.bool (!there P w)] := by
  refine Is.of e161 ((isIntI w).mp2 (isBlockI P w hs hP) fun n q1 q2 => ?_)
  rw [bad_there]
  cases c1 : (!eqI (w % 2) 0 && okW (w / 2)) <;> cases c2 : (eqI (w % 2) 0 && inP P (w / 2)) <;> rw [c1] at q1 <;> rw [c2] at q2 <;> simp [F161, q1, q2]
theorem drop_gw {R : List Int} {i : Nat} (h : i < R.length) : R.drop i = gw R i :: R.drop (i + 1) := by
  rw [List.drop_eq_getElem_cons h]
  simp [gw, List.getD_eq_getElem?_getD, h]
theorem idxLoop (P : List Nat) (R : List Int) (hs : P.Pairwise (· < ·)) (hP : P.length ≤ 1048576) (hR : R.length ≤ 1048576) : ∀ (j i : Nat), i + j = R.length → ∃ r : Nat, Evt fun n => ∀ m, j + 1 ≤ m → loopEv (L173_0 (ev Try.prog sg n) n) m [.int i, .int R.length, words R, nats P] = if allP P (R.drop i) then some (.x 0, []) else some (.r, [.int r]) := by
  have hl := wordsLen R
  intro j
  induction j with
  | zero =>
    intro i hi
    refine ⟨0, Evt.all fun n m hm => ?_⟩
    obtain ⟨m, rfl⟩ : ∃ m', m = m' + 1 := ⟨m - 1, by omega⟩
    have e : R.drop i = [] := List.drop_eq_nil_iff.2 (by omega)
    simp (disch := omega) [loopEv, L173_0, ltF, e, allP]
  | succ j ih =>
    intro i hi
    have hn := nth_gw (W := R) (i := i) (by omega)
    have hd := drop_gw (R := R) (i := i) (by omega)
    cases hc : there P (gw R i) with
    | true =>
      obtain ⟨r, hr⟩ := ih (i + 1) (by omega)
      refine ⟨r, (notThereI P (gw R i) hs hP).mp2 hr fun n q1 q2 m hm => ?_⟩
      obtain ⟨m, rfl⟩ : ∃ m', m = m' + 1 := ⟨m - 1, by omega⟩
      rw [hc] at q1
      have hB : L173_0 (ev Try.prog sg n) n [.int i, .int R.length, words R, nats P] = some (.n, [.int (i + 1 : Nat), .int R.length, words R, nats P]) := by
        simp (disch := omega) [L173_0, ltT, geT, hl, hn, q1, wrap64]
      simp only [loopEv, hB, thenN_n]
      rw [q2 m (by omega), hd]
      simp [allP, hc]
    | false =>
      refine ⟨i, (notThereI P (gw R i) hs hP).mp fun n q1 m hm => ?_⟩
      obtain ⟨m, rfl⟩ : ∃ m', m = m' + 1 := ⟨m - 1, by omega⟩
      rw [hc] at q1
      have hB : L173_0 (ev Try.prog sg n) n [.int i, .int R.length, words R, nats P] = some (.r, [.int i]) := by
        simp (disch := omega) [L173_0, ltT, geT, hl, hn, q1]
      rw [hd]
      simp [loopEv, hB, allP, hc]
theorem anyI (P : List Nat) (R : List Int) (hs : P.Pairwise (· < ·)) (hP : P.length ≤ 1048576) (hR : R.length ≤ 1048576) : Rn 160 [words R, nats P] [.bool (!allP P R)] := by
  have hl := wordsLen R
  obtain ⟨r, hr⟩ := idxLoop P R hs hP hR R.length 0 (by omega)
  have h1 : Rn 173 [words R, nats P] [.int (if allP P R then -1 else (r : Int))] := by
    refine Is.of e173 (hr.mp2 (Evt.ge (R.length + 1)) fun n q1 q2 => ?_)
    have q1 := q1 n q2
    simp only [List.drop_zero, show ((0 : Nat) : Int) = 0 from rfl] at q1
    cases hc : allP P R <;> rw [hc] at q1 <;> simp at q1 <;> simp [F173, hl, q1]
  refine Is.of e160 (h1.mp fun n q => ?_)
  cases hc : allP P R <;> rw [hc] at q <;> simp at q <;> simp (disch := omega) [F160, q, geT, geF]
theorem range_gw {f : Int → Bool} (R : List Int) : ((List.range R.length).all fun i => f (gw R i)) = R.all f := by
  rw [Bool.eq_iff_iff, List.all_eq_true, List.all_eq_true]
  constructor
  · intro h x hx
    obtain ⟨i, hi, rfl⟩ := List.getElem_of_mem hx
    have := h i (by simpa using hi)
    simpa [gw, List.getD_eq_getElem?_getD, hi] using this
  · intro h i hi
    have hi : i < R.length := by simpa using hi
    exact h _ (by simp [gw, List.getD_eq_getElem?_getD, hi])
def rootsB (W : List Int) (half base next : Int) (R : List Int) : Bool := heapB W half base next && allP (plcs W base next) R
theorem heapB_pre {W : List Int} {half base next : Int} (h : heapB W half base next = true) : (preB W half base next && plcsB W base next) = true ∧ Pre W half base next := by
  simp only [heapB, Bool.and_eq_true] at h
  refine ⟨by simp [h.1, h.2.1], pre_of h.1⟩
theorem rootsI {W : List Int} {half base next : Int} {R : List Int} (hW : W.length ≤ 1048576) (hR : R.length ≤ 1048576) : Rn 88 [heapV W half base next, words R] [.bool (rootsB W half base next R)] := by
  have h1 := heapI (half := half) (base := base) (next := next) hW
  cases hc : heapB W half base next with
  | false =>
    rw [hc] at h1
    exact Is.of e88 (h1.mp fun n q => by simp [F88, q, rootsB, hc])
  | true =>
    have hb := blocksI (half := half) (base := base) (next := next) hW
    rw [hc] at h1
    rw [(heapB_pre hc).1] at hb
    simp only [if_true] at hb
    have hP := plcs_len W base next
    refine Is.of e88 (h1.mp3 hb (anyI (plcs W base next) R (plcs_sorted W base next) (by omega) hR) fun n q1 q2 q3 => ?_)
    simp [F88, q1, q2, q3, rootsB, hc]
/-! ### A machine is right -/
def CallOk (q : PV) : Prop := ∃ f p b : Int, q = .agg [.int f, .int p, .int b]
def cf (calls : List PV) (i k : Nat) : Int := ((nth calls i).fld k).toInt
theorem cf_eq {calls : List PV} (hc : ∀ q, q ∈ calls → CallOk q) {i : Nat} (hi : i < calls.length) : nth calls i = .agg [.int (cf calls i 0), .int (cf calls i 1), .int (cf calls i 2)] := by
  obtain ⟨f, p, b, e⟩ := hc _ (nth_mem hi)
  unfold cf
  rw [e]
  rfl
def callB (fs calls : List PV) (s : Nat) (i : Nat) : Bool := okR (cf calls i 0) 0 (fs.length - 1) && (okR (cf calls i 1) 0 (((nth fs (cf calls i 0).toNat).fld 1).toList.length - 1) && (okR (cf calls i 2) 1 (s - 1) && (eqI i 0 || ltI (cf calls (i - 1) 2) (cf calls i 2))))
theorem wrapLen (n : Nat) (h : n ≤ 1048576) : IntKind.i64.wrap ((n : Int) - 1) = n - 1 := wrap64 (by omega) (by omega)
abbrev vmV (fs : List PV) (W : List Int) (half base next : Int) (S : List Int) (calls : List PV) (O : List Int) (code : Int) (each : Bool) : PV := .agg [.list fs, heapV W half base next, words S, .list calls, words O, .int code, .bool each]
def vmB (fs : List PV) (W : List Int) (half base next : Int) (S : List Int) (calls : List PV) (O : List Int) (code : Int) : Bool :=
  funsOk fs && (heapB W half base next && (leI S.length 600 && (leI calls.length 120 && (okR code 0 5 && (!(eqI code 0 && eqI calls.length 0) && (allP (plcs W base next) S && ((List.range calls.length).all (callB fs calls S.length) && O.all okW)))))))
section
variable {fs calls : List PV} {W S O : List Int} {half base next code : Int} {each : Bool}
theorem callI (hfs : fs.length ≤ 1048576) (hf : ∀ q, q ∈ fs → FunOk q) (hS : S.length ≤ 1048576) (hC : calls.length ≤ 1048576) (hc : ∀ q, q ∈ calls → CallOk q) {i : Nat} (hi : i < calls.length) :
    Evt fun n => L48_0 (ev Try.prog sg n) n [.int i, .int calls.length, .list calls, vmV fs W half base next S calls O code each] = if callB fs calls S.length i then some (.n, [.int (i + 1 : Nat), .int calls.length, .list calls, vmV fs W half base next S calls O code each]) else some (.r, [.bool false]) := by
  have hn := cf_eq hc hi
  have hsl := wordsLen S
  have w1 := wrapLen fs.length hfs
  have w2 := wrapLen S.length hS
  unfold callB
  have r1 := is54 (cf calls i 0) 0 (fs.length - 1)
  by_cases c1 : okR (cf calls i 0) 0 (fs.length - 1) = true
  rotate_left
  · have c1 : okR (cf calls i 0) 0 (fs.length - 1) = false := by simpa using c1
    rw [c1] at r1
    refine r1.mp fun n q1 => ?_
    simp (disch := omega) [L48_0, ltT, geT, hn, w1, q1, c1, isB_unit]
  rw [c1] at r1
  have hb := okR_in c1
  obtain ⟨free, ops, hq, ho, _⟩ := hf _ (nth_mem (l := fs) (i := (cf calls i 0).toNat) (by omega))
  have w3 := wrapLen ops.length ho
  have r2 := is54 (cf calls i 1) 0 (ops.length - 1)
  rw [hq]
  simp only [fld_agg, nth_1, toList_list]
  by_cases c2 : okR (cf calls i 1) 0 (ops.length - 1) = true
  rotate_left
  · have c2 : okR (cf calls i 1) 0 (ops.length - 1) = false := by simpa using c2
    rw [c2] at r2
    refine r1.mp2 r2 fun n q1 q2 => ?_
    simp (disch := omega) [L48_0, ltT, geT, hn, w1, w3, hq, q1, c1, q2, c2, isB_unit]
  rw [c2] at r2
  have r3 := is54 (cf calls i 2) 1 (S.length - 1)
  by_cases c3 : okR (cf calls i 2) 1 (S.length - 1) = true
  rotate_left
  · have c3 : okR (cf calls i 2) 1 (S.length - 1) = false := by simpa using c3
    rw [c3] at r3
    refine r1.mp3 r2 r3 fun n q1 q2 q3 => ?_
    simp (disch := omega) [L48_0, ltT, geT, hn, w1, w2, w3, hq, q1, c1, q2, c2, q3, c3, isB_unit, hsl]
  rw [c3] at r3
  by_cases h0 : i = 0
  · subst h0
    refine r1.mp3 r2 r3 fun n q1 q2 q3 => ?_
    have hi : 0 < calls.length := hi
    simp (disch := omega) [L48_0, ltT, geT, hn, w1, w2, w3, hq, q1, c1, q2, c2, q3, c3, isB_unit, hsl, gtF, eqT, wrap64]
  · have hp := cf_eq hc (i := i - 1) (by omega)
    have e1 : ((i : Int) - 1).toNat = i - 1 := by omega
    have w4 : IntKind.i64.wrap ((i : Int) - 1) = i - 1 := wrap64 (by omega) (by omega)
    refine r1.mp3 r2 r3 fun n q1 q2 q3 => ?_
    by_cases c4 : cf calls (i - 1) 2 < cf calls i 2
    · simp (disch := omega) [L48_0, ltT, geT, geF, hn, w1, w2, w3, w4, e1, hp, hq, q1, c1, q2, c2, q3, c3, isB_unit, hsl, gtT, eqF, wrap64]
    · simp (disch := omega) [L48_0, ltT, ltF, geT, hn, w1, w2, w3, w4, e1, hp, hq, q1, c1, q2, c2, q3, c3, isB_unit, hsl, gtT, eqF, wrap64]
theorem callS (hfs : fs.length ≤ 1048576) (hf : ∀ q, q ∈ fs → FunOk q) (hS : S.length ≤ 1048576) (hC : calls.length ≤ 1048576) (hc : ∀ q, q ∈ calls → CallOk q) {i : Nat} (hi : i < calls.length) :
    Evt fun n => L46_1 (ev Try.prog sg n) n [.int i, vmV fs W half base next S calls O code each] = if callB fs calls S.length i then some (.n, [.int (i + 1 : Nat), vmV fs W half base next S calls O code each]) else some (.r, [.bool false]) := by
  have hn := cf_eq hc hi
  have hsl := wordsLen S
  have w1 := wrapLen fs.length hfs
  have w2 := wrapLen S.length hS
  unfold callB
  have r1 := is51 (cf calls i 0) 0 (fs.length - 1)
  by_cases c1 : okR (cf calls i 0) 0 (fs.length - 1) = true
  rotate_left
  · have c1 : okR (cf calls i 0) 0 (fs.length - 1) = false := by simpa using c1
    rw [c1] at r1
    refine r1.mp fun n q1 => ?_
    simp (disch := omega) [L46_1, ltT, geT, hn, w1, q1, c1, isB_unit]
  rw [c1] at r1
  have hb := okR_in c1
  obtain ⟨free, ops, hq, ho, _⟩ := hf _ (nth_mem (l := fs) (i := (cf calls i 0).toNat) (by omega))
  have w3 := wrapLen ops.length ho
  have r2 := is51 (cf calls i 1) 0 (ops.length - 1)
  rw [hq]
  simp only [fld_agg, nth_1, toList_list]
  by_cases c2 : okR (cf calls i 1) 0 (ops.length - 1) = true
  rotate_left
  · have c2 : okR (cf calls i 1) 0 (ops.length - 1) = false := by simpa using c2
    rw [c2] at r2
    refine r1.mp2 r2 fun n q1 q2 => ?_
    simp (disch := omega) [L46_1, ltT, geT, hn, w1, w3, hq, q1, c1, q2, c2, isB_unit]
  rw [c2] at r2
  have r3 := is51 (cf calls i 2) 1 (S.length - 1)
  by_cases c3 : okR (cf calls i 2) 1 (S.length - 1) = true
  rotate_left
  · have c3 : okR (cf calls i 2) 1 (S.length - 1) = false := by simpa using c3
    rw [c3] at r3
    refine r1.mp3 r2 r3 fun n q1 q2 q3 => ?_
    simp (disch := omega) [L46_1, ltT, geT, hn, w1, w2, w3, hq, q1, c1, q2, c2, q3, c3, isB_unit, hsl]
  rw [c3] at r3
  by_cases h0 : i = 0
  · subst h0
    refine r1.mp3 r2 r3 fun n q1 q2 q3 => ?_
    have hi : 0 < calls.length := hi
    simp (disch := omega) [L46_1, ltT, geT, hn, w1, w2, w3, hq, q1, c1, q2, c2, q3, c3, isB_unit, hsl, gtF, eqT, wrap64]
  · have hp := cf_eq hc (i := i - 1) (by omega)
    have e1 : ((i : Int) - 1).toNat = i - 1 := by omega
    have w4 : IntKind.i64.wrap ((i : Int) - 1) = i - 1 := wrap64 (by omega) (by omega)
    refine r1.mp3 r2 r3 fun n q1 q2 q3 => ?_
    by_cases c4 : cf calls (i - 1) 2 < cf calls i 2
    · simp (disch := omega) [L46_1, ltT, geT, leF, hn, w1, w2, w3, w4, e1, hp, hq, q1, c1, q2, c2, q3, c3, isB_unit, hsl, gtT, eqF, wrap64]
    · simp (disch := omega) [L46_1, ltT, ltF, geT, leT, hn, w1, w2, w3, w4, e1, hp, hq, q1, c1, q2, c2, q3, c3, isB_unit, hsl, gtT, eqF, wrap64]
theorem outI (hO : O.length ≤ 1048576) : Evt fun n => loopEv (L48_1 (ev Try.prog sg n) n) n [.int 0, .int O.length, words O] = if O.all okW then some (.x 2, []) else some (.r, [.bool false]) := by
  have hl := wordsLen O
  have h1 := all_loop (body := fun n => L48_1 (ev Try.prog sg n) n) (pay := fun i => [.int i, .int O.length, words O]) (c := fun i => okW (gw O i)) (e1 := .x 2) (r1 := []) (e2 := .r) (r2 := [.bool false]) O.length (by simp) (by simp) (fun i hi hc => ?_) (fun i hi hc => ?_) (Evt.all fun n => ?_)
  · rwa [range_gw] at h1
  · have hn := nth_gw hi
    refine (is102 (gw O i)).mp fun n q => ?_
    rw [hc] at q
    simp (disch := omega) [L48_1, ltT, geT, hl, hn, q, wrap64]
  · have hn := nth_gw hi
    refine (is102 (gw O i)).mp fun n q => ?_
    rw [hc] at q
    simp (disch := omega) [L48_1, ltT, geT, hl, hn, q, wrap64]
  · simp (disch := omega) [L48_1, ltF]
theorem outS (hO : O.length ≤ 1048576) : Evt fun n => loopEv (L46_2 (ev Try.prog sg n) n) n [.int 0, vmV fs W half base next S calls O code each] = if O.all okW then some (.x 4, []) else some (.r, [.bool false]) := by
  have hl := wordsLen O
  have h1 := all_loop (body := fun n => L46_2 (ev Try.prog sg n) n) (pay := fun i => [.int i, vmV fs W half base next S calls O code each]) (c := fun i => okW (gw O i)) (e1 := .x 4) (r1 := []) (e2 := .r) (r2 := [.bool false]) O.length (by simp) (by simp) (fun i hi hc => ?_) (fun i hi hc => ?_) (Evt.all fun n => ?_)
  · rwa [range_gw] at h1
  · have hn := nth_gw hi
    refine (is101 (gw O i)).mp fun n q => ?_
    rw [hc] at q
    simp (disch := omega) [L46_2, ltT, geT, hl, hn, q, wrap64]
  · have hn := nth_gw hi
    refine (is101 (gw O i)).mp fun n q => ?_
    rw [hc] at q
    simp (disch := omega) [L46_2, ltT, geT, hl, hn, q, wrap64]
  · simp (disch := omega) [L46_2, ltF, hl]
theorem stackS {P : List Nat} (hP : P.length ≤ 1048576) (hS : S.length ≤ 1048576) : Evt fun n => loopEv (L46_0 (ev Try.prog sg n) n) n [.int 0, nats P, vmV fs W half base next S calls O code each] = if allP P S then some (.x 0, [vmV fs W half base next S calls O code each]) else some (.r, [.bool false]) := by
  have hl := wordsLen S
  have h1 := all_loop (body := fun n => L46_0 (ev Try.prog sg n) n) (pay := fun i => [.int i, nats P, vmV fs W half base next S calls O code each]) (c := fun i => there P (gw S i)) (e1 := .x 0) (r1 := [vmV fs W half base next S calls O code each]) (e2 := .r) (r2 := [.bool false]) S.length (by simp) (by simp) (fun i hi hc => ?_) (fun i hi hc => ?_) (Evt.all fun n => ?_)
  · rwa [range_gw] at h1
  · have hn := nth_gw hi
    refine (thereS P (gw S i) hP).mp fun n q => ?_
    rw [hc] at q
    simp (disch := omega) [L46_0, ltT, geT, hl, hn, q, wrap64]
  · have hn := nth_gw hi
    refine (thereS P (gw S i) hP).mp fun n q => ?_
    rw [hc] at q
    simp (disch := omega) [L46_0, ltT, geT, hl, hn, q, wrap64]
  · simp (disch := omega) [L46_0, ltF, hl]
theorem callsI (hfs : fs.length ≤ 1048576) (hf : ∀ q, q ∈ fs → FunOk q) (hS : S.length ≤ 1048576) (hC : calls.length ≤ 1048576) (hc : ∀ q, q ∈ calls → CallOk q) :
    Evt fun n => loopEv (L48_0 (ev Try.prog sg n) n) n [.int 0, .int calls.length, .list calls, vmV fs W half base next S calls O code each] = if (List.range calls.length).all (callB fs calls S.length) then some (.x 0, [vmV fs W half base next S calls O code each]) else some (.r, [.bool false]) := by
  refine all_loop (body := fun n => L48_0 (ev Try.prog sg n) n) (pay := fun i => [.int i, .int calls.length, .list calls, vmV fs W half base next S calls O code each]) (c := callB fs calls S.length) (e1 := .x 0) (r1 := [vmV fs W half base next S calls O code each]) (e2 := .r) (r2 := [.bool false]) calls.length (by simp) (by simp) (fun i hi hcc => ?_) (fun i hi hcc => ?_) (Evt.all fun n => ?_)
  · have := callI (W := W) (O := O) (half := half) (base := base) (next := next) (code := code) (each := each) hfs hf hS hC hc hi
    rw [hcc] at this
    exact this
  · have := callI (W := W) (O := O) (half := half) (base := base) (next := next) (code := code) (each := each) hfs hf hS hC hc hi
    rw [hcc] at this
    exact this
  · simp (disch := omega) [L48_0, ltF]
theorem callsS (hfs : fs.length ≤ 1048576) (hf : ∀ q, q ∈ fs → FunOk q) (hS : S.length ≤ 1048576) (hC : calls.length ≤ 1048576) (hc : ∀ q, q ∈ calls → CallOk q) :
    Evt fun n => loopEv (L46_1 (ev Try.prog sg n) n) n [.int 0, vmV fs W half base next S calls O code each] = if (List.range calls.length).all (callB fs calls S.length) then some (.x 2, [vmV fs W half base next S calls O code each]) else some (.r, [.bool false]) := by
  refine all_loop (body := fun n => L46_1 (ev Try.prog sg n) n) (pay := fun i => [.int i, vmV fs W half base next S calls O code each]) (c := callB fs calls S.length) (e1 := .x 2) (r1 := [vmV fs W half base next S calls O code each]) (e2 := .r) (r2 := [.bool false]) calls.length (by simp) (by simp) (fun i hi hcc => ?_) (fun i hi hcc => ?_) (Evt.all fun n => ?_)
  · have := callS (W := W) (O := O) (half := half) (base := base) (next := next) (code := code) (each := each) hfs hf hS hC hc hi
    rw [hcc] at this
    exact this
  · have := callS (W := W) (O := O) (half := half) (base := base) (next := next) (code := code) (each := each) hfs hf hS hC hc hi
    rw [hcc] at this
    exact this
  · simp (disch := omega) [L46_1, ltF]
theorem vmI (hfs : fs.length ≤ 1048576) (hf : ∀ q, q ∈ fs → FunOk q) (hW : W.length ≤ 1048576) (hS : S.length ≤ 1048576) (hC : calls.length ≤ 1048576) (hc : ∀ q, q ∈ calls → CallOk q) (hO : O.length ≤ 1048576) :
    Rn 48 [vmV fs W half base next S calls O code each] [.bool (vmB fs W half base next S calls O code)] := by
  have hsl := wordsLen S
  have hol := wordsLen O
  have r1 := fun44 hfs hf
  have r2 := rootsI (half := half) (base := base) (next := next) hW hS
  have r3 := is54 code 0 5
  have r4 := callsI (W := W) (O := O) (half := half) (base := base) (next := next) (code := code) (each := each) hfs hf hS hC hc
  have r5 := outI hO
  unfold rootsB at r2
  unfold vmB
  cases c1 : funsOk fs with
  | false =>
    rw [c1] at r1
    exact Is.of e48 (r1.mp fun n q1 => by simp [F48, q1, isB_unit])
  | true =>
  rw [c1] at r1
  cases c2 : (heapB W half base next && allP (plcs W base next) S) with
  | false =>
    rw [c2] at r2
    have e : (true && (heapB W half base next && (leI S.length 600 && (leI calls.length 120 && (okR code 0 5 && (!(eqI code 0 && eqI calls.length 0) && (allP (plcs W base next) S && ((List.range calls.length).all (callB fs calls S.length) && O.all okW)))))))) = false := by
      cases h1 : heapB W half base next <;> cases h2 : allP (plcs W base next) S <;> rw [h1, h2] at c2 <;> simp at c2 <;> simp
    rw [e]
    exact Is.of e48 (r1.mp2 r2 fun n q1 q2 => by simp [F48, q1, q2, isB_unit])
  | true =>
  rw [c2] at r2
  simp only [Bool.and_eq_true] at c2
  rw [c2.1, c2.2]
  by_cases c3 : (S.length : Int) ≤ 600
  rotate_left
  · exact Is.of e48 (r1.mp2 r2 fun n q1 q2 => by simp [F48, q1, q2, isB_unit, hsl, gtT (Int.not_le.1 c3), leF (Int.not_le.1 c3)])
  by_cases c4 : (calls.length : Int) ≤ 120
  rotate_left
  · exact Is.of e48 (r1.mp2 r2 fun n q1 q2 => by simp [F48, q1, q2, isB_unit, hsl, gtF c3, leT c3, gtT (Int.not_le.1 c4), leF (Int.not_le.1 c4)])
  cases c5 : okR code 0 5 with
  | false =>
    rw [c5] at r3
    exact Is.of e48 (r1.mp3 r2 r3 fun n q1 q2 q3 => by simp [F48, q1, q2, q3, isB_unit, hsl, gtF c3, leT c3, gtF c4, leT c4])
  | true =>
  rw [c5] at r3
  have hv : ∀ n, ev Try.prog sg n 119 [.list fs] = some [.bool true] → ev Try.prog sg n 88 [heapV W half base next, words S] = some [.bool true] → ev Try.prog sg n 102 [.int code, .int 0, .int 5] = some [.bool true] →
      F48 (ev Try.prog sg n) n [vmV fs W half base next S calls O code each] = if (eqI code 0 && eqI calls.length 0) then some [.bool false] else (thenN (thenE (loopEv (L48_0 (ev Try.prog sg n) n) n [(PV.int (0 : Int)), (PV.int (calls.length : Int)), .list calls, vmV fs W half base next S calls O code each])
        (passB 0))
        (fun p23 => (thenN (thenE (loopEv (L48_1 (ev Try.prog sg n) n) n [(PV.int (0 : Int)), (PV.int (((nth p23 0).fld 4).toList.length : Int)), ((nth p23 0).fld 4)])
        (passB 2))
        (fun p26 => (some [(PV.bool true)]))
        (retE fun q27 => [(nth q27 0)])))
        (retE fun q28 => [(nth q28 0)])) := fun n q1 q2 q3 => by
    cases h1 : eqI code 0 <;> cases h2 : eqI calls.length 0 <;> simp [F48, q1, q2, q3, isB_unit, hsl, gtF c3, gtF c4, h1, h2]
  refine Is.of e48 (((r1.and r2).and (r3.and (r4.and r5))).mp fun n ⟨⟨q1, q2⟩, q3, q4, q5⟩ => ?_)
  rw [hv n q1 q2 q3, leT c3, leT c4]
  cases c6 : (eqI code 0 && eqI calls.length 0) with
  | true => simp
  | false =>
    simp only [Bool.false_eq_true, if_false]
    rw [q4]
    cases c7 : (List.range calls.length).all (callB fs calls S.length) with
    | false => simp
    | true =>
      cases c8 : O.all okW with
      | false => rw [c8] at q5; simp at q5; simp [q5, hol]
      | true => rw [c8] at q5; simp at q5; simp [q5, hol]
theorem vmS (hfs : fs.length ≤ 1048576) (hf : ∀ q, q ∈ fs → FunOk q) (hW : W.length ≤ 1048576) (hW2 : ∀ w, w ∈ W → w < 9223372036854775808) (hS : S.length ≤ 1048576) (hC : calls.length ≤ 1048576) (hc : ∀ q, q ∈ calls → CallOk q) (hO : O.length ≤ 1048576) :
    Rn 46 [vmV fs W half base next S calls O code each] [.bool (vmB fs W half base next S calls O code)] := by
  have hsl := wordsLen S
  have hol := wordsLen O
  have r1 := fun41 hfs hf
  have r2 := heapS (half := half) (base := base) (next := next) hW hW2
  have r3 := is51 code 0 5
  have r4 := callsS (W := W) (O := O) (half := half) (base := base) (next := next) (code := code) (each := each) hfs hf hS hC hc
  have r5 := outS (fs := fs) (W := W) (half := half) (base := base) (next := next) (S := S) (calls := calls) (code := code) (each := each) hO
  unfold vmB
  cases c1 : funsOk fs with
  | false =>
    rw [c1] at r1
    exact Is.of e46 (r1.mp fun n q1 => by simp [F46, q1, isB_unit])
  | true =>
  rw [c1] at r1
  cases c2 : heapB W half base next with
  | false =>
    rw [c2] at r2
    exact Is.of e46 (r1.mp2 r2 fun n q1 q2 => by simp [F46, q1, q2, isB_unit])
  | true =>
  rw [c2] at r2
  obtain ⟨hp1, hp⟩ := heapB_pre c2
  have r6 := placesS hp hW2
  have hP := plcs_len W base next
  have r7 := stackS (fs := fs) (W := W) (half := half) (base := base) (next := next) (S := S) (calls := calls) (O := O) (code := code) (each := each) (P := plcs W base next) (by omega) hS
  by_cases c3 : (S.length : Int) ≤ 600
  rotate_left
  · exact Is.of e46 (r1.mp2 r2 fun n q1 q2 => by simp [F46, q1, q2, isB_unit, hsl, gtT (Int.not_le.1 c3), leF (Int.not_le.1 c3)])
  by_cases c4 : (calls.length : Int) ≤ 120
  rotate_left
  · exact Is.of e46 (r1.mp2 r2 fun n q1 q2 => by simp [F46, q1, q2, isB_unit, hsl, gtF c3, leT c3, gtT (Int.not_le.1 c4), leF (Int.not_le.1 c4)])
  cases c6 : (eqI code 0 && eqI calls.length 0) with
  | true =>
    simp only [Bool.and_eq_true] at c6
    exact Is.of e46 (r1.mp2 r2 fun n q1 q2 => by simp [F46, q1, q2, isB_unit, hsl, gtF c3, leT c3, gtF c4, leT c4, c6.1, c6.2])
  | false =>
  have hv : ∀ n, ev Try.prog sg n 116 [.list fs] = some [.bool true] → ev Try.prog sg n 34 [heapV W half base next] = some [.bool true] → ev Try.prog sg n 104 [.int code, .int 0, .int 5] = some [.bool (okR code 0 5)] →
      F46 (ev Try.prog sg n) n [vmV fs W half base next S calls O code each] = if okR code 0 5 then ((ev Try.prog sg n 79 [heapV W half base next]).bind fun r11 =>
        (thenN (thenE (loopEv (L46_0 (ev Try.prog sg n) n) n [(PV.int (0 : Int)), (nth r11 0), vmV fs W half base next S calls O code each])
        (passB 0))
        (fun p14 => (thenN (thenE (loopEv (L46_1 (ev Try.prog sg n) n) n [(PV.int (0 : Int)), (nth p14 0)])
        (passB 2))
        (fun p27 => (thenN (thenE (loopEv (L46_2 (ev Try.prog sg n) n) n [(PV.int (0 : Int)), (nth p27 0)])
        (passB 4))
        (fun p30 => (some [(PV.bool true)]))
        (retE fun q31 => [(nth q31 0)])))
        (retE fun q32 => [(nth q32 0)])))
        (retE fun q33 => [(nth q33 0)]))) else some [.bool false] := fun n q1 q2 q3 => by
    cases h0 : okR code 0 5 <;> rw [h0] at q3 <;> cases h1 : eqI code 0 <;> cases h2 : eqI calls.length 0 <;> rw [h1, h2] at c6 <;> simp at c6 <;> simp [F46, q1, q2, q3, isB_unit, hsl, gtF c3, gtF c4, h1, h2]
  refine Is.of e46 (((r1.and r2).and (r3.and (r4.and (r5.and (r6.and r7))))).mp fun n ⟨⟨q1, q2⟩, q3, q4, q5, q6, q7⟩ => ?_)
  rw [hv n q1 q2 q3, leT c3, leT c4]
  cases c5 : okR code 0 5 with
  | false => simp
  | true =>
    rw [if_pos rfl, q6]
    simp only [Option.bind_some, nth_0]
    rw [q7]
    cases c9 : allP (plcs W base next) S with
    | false => simp
    | true =>
      simp only [if_true, thenE_some, passB_same, thenN_n, nth_0]
      rw [q4]
      cases c7 : (List.range calls.length).all (callB fs calls S.length) with
      | false => simp
      | true =>
        simp only [if_true, thenE_some, passB_same, thenN_n, nth_0]
        rw [q5]
        cases c8 : O.all okW <;> simp
end
end Go.Proofs.Ytijgokehlicmnaa.GFnExactVmNew
