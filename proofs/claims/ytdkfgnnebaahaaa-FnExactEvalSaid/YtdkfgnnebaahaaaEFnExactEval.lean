/- What functions of the program and of the reference come to, for the law FnExactEval. Each under the conditions that it names. -/
import Derived.Test.YtdkfgnnebaahaaaDFnExactEval
namespace Go.Proofs.Ytdkfgnnebaahaaa.GFnExactEval
open Go Go.Rsc Go.Proofs.Ytdkfgnnebaahaaa
set_option maxRecDepth 100000
set_option linter.unusedVariables false
set_option linter.unusedSimpArgs false
local notation "e0" => (⟨#[]⟩ : ByteArray)
local notation "zc" => PV.agg [PV.int 0, PV.int 0, PV.str (⟨#[]⟩ : ByteArray), PV.str (⟨#[]⟩ : ByteArray), PV.list []]
local notation "vNil" => PV.list [PV.agg [PV.int 2, PV.int 0, PV.list [], PV.list [], PV.str (⟨#[]⟩ : ByteArray), PV.agg [PV.int 0, PV.int 0, PV.str (⟨#[]⟩ : ByteArray), PV.str (⟨#[]⟩ : ByteArray), PV.list []], PV.list []]]
local notation "wZero" => PV.agg [PV.int 0, PV.int 0, PV.list [], PV.agg [PV.int 0, PV.int 0, PV.str (⟨#[]⟩ : ByteArray), PV.str (⟨#[]⟩ : ByteArray), PV.list []], PV.str (⟨#[]⟩ : ByteArray), PV.str (⟨#[]⟩ : ByteArray), PV.list []]
set_option maxHeartbeats 8000000
/-! ### What kids that are evaluated come to -/
def vInt (n : Int) : PV := PV.list [PV.agg [PV.int 1, PV.int n, PV.list [], PV.list [], PV.str e0, zc, PV.list []]]
def wInt (n : Int) : PV := PV.agg [PV.int 1, PV.int n, PV.list [], zc, PV.str e0, PV.str e0, PV.list []]
theorem VR.ofInt {n : Int} (h : in64 n) : VR (vInt n) (wInt n) := VR.int n h
theorem in64_wrap (y : Int) : in64 (IntKind.i64.wrap y) := by
  unfold in64 IntKind.wrap
  simp only [IntKind.bits, IntKind.signed]
  first
    | omega
    | (constructor <;> simp <;> split <;> omega)
theorem VR.shape {a a' : PV} (h : VR a a') : ∃ (k n : Int) (p q : PV) (r : ByteArray) (b env ks b' : PV) (ar sf : ByteArray) (en : PV),
    a = .list [.agg [.int k, .int n, p, q, .str r, b, env]] ∧ a' = .agg [.int k, .int n, ks, b', .str ar, .str sf, en] ∧ (k = 1 → in64 n ∧ a = vInt n ∧ a' = wInt n) := by
  cases h with
  | int n h => exact ⟨_, _, _, _, _, _, _, _, _, _, _, _, rfl, rfl, fun _ => ⟨h, rfl, rfl⟩⟩
  | nil => exact ⟨_, _, _, _, _, _, _, _, _, _, _, _, rfl, rfl, fun h => by omega⟩
  | pair h1 h2 => exact ⟨_, _, _, _, _, _, _, _, _, _, _, _, rfl, rfl, fun h => by omega⟩
  | clo arg c h1 h2 h3 => exact ⟨_, _, _, _, _, _, _, _, _, _, _, _, rfl, rfl, fun h => by omega⟩
  | recf self arg c h1 h2 h3 h4 => exact ⟨_, _, _, _, _, _, _, _, _, _, _, _, rfl, rfl, fun h => by omega⟩
def AInt : List PV → List PV → Prop
  | [], [] => True
  | a :: l, b :: m => (∃ n, in64 n ∧ a = vInt n ∧ b = wInt n) ∧ AInt l m
  | _, _ => False
def CI (S C : PV) (L : List PV) (i w : Nat) (r : Ex × List PV) : Prop := Evt fun k => ∀ m, w + 1 ≤ m → loopEv (L46_0 (ev Try.prog sg k) k) m [.int i, .int L.length, .list L, .list L, S, C] = some r
def CS (S C z : PV) (L : List PV) (i w : Nat) (r : Ex × List PV) : Prop := Evt fun k => ∀ m, w + 1 ≤ m → loopEv (L40_0 (ev Try.prog sg k) k) m [.int i, .list L, S, C, z] = some r
theorem chk (s : St) (hc : s.c = 0) (C z : PV) : ∀ (vs vs' pre pre' : List PV), VRs vs vs' → pre.length = pre'.length → (pre ++ vs).length ≤ 10 →
    (AInt vs vs' ∧ CI s.pv C (pre ++ vs) pre.length vs.length (.x 1, [.list (pre ++ vs), s.pv, C]) ∧ CS s.pv C z (pre' ++ vs') pre.length vs.length (.x 1, [.list (pre' ++ vs'), s.pv, C, z])) ∨
    (CI s.pv C (pre ++ vs) pre.length vs.length (.r, [(St.mk s.f 2 s.o).pv, vNil]) ∧ CS s.pv C z (pre' ++ vs') pre.length vs.length (.r, [(St.mk s.f 2 s.o).pv, wZero]))
  | [], [], pre, pre', h, hp, hl => by
    refine Or.inl ⟨trivial, Evt.all fun k m hm => ?_, Evt.all fun k m hm => ?_⟩
    · obtain ⟨m, rfl⟩ : ∃ m', m = m' + 1 := ⟨m - 1, by omega⟩
      simp (disch := omega) [loopEv, L46_0, ltF]
    · obtain ⟨m, rfl⟩ : ∃ m', m = m' + 1 := ⟨m - 1, by omega⟩
      simp (disch := omega) [loopEv, L40_0, ltF]
  | a :: vs, b :: vs', pre, pre', h, hp, hl => by
    obtain ⟨hv, hvs⟩ := h
    obtain ⟨k0, n, p, q, r, bd, env, ks, bd', ar, sf, en, ha, hb, hk⟩ := hv.shape
    have hlen : vs.length = vs'.length := by
      clear hl hp hv ha hb hk
      induction vs generalizing vs' with
      | nil => cases vs' with
        | nil => rfl
        | cons => exact hvs.elim
      | cons x vs ih => cases vs' with
        | nil => exact hvs.elim
        | cons y vs' => simp [ih vs' hvs.2]
    have h1 : (pre ++ a :: vs).length = pre.length + 1 + vs.length := by simp; omega
    have h2 : (pre' ++ b :: vs').length = pre.length + 1 + vs.length := by simp; omega
    have n1 : nth (pre ++ a :: vs) pre.length = a := nth_mid pre vs a
    have n2 : nth (pre' ++ b :: vs') pre.length = b := by rw [hp]; exact nth_mid pre' vs' b
    have hb10 : pre.length + 1 + vs.length ≤ 10 := by rw [← h1]; exact hl
    have g1 : gtI (a.toList.length : Int) 0 = true := by rw [ha]; rfl
    have g2 : ((nth a.toList 0).fld 0).toInt = k0 := by rw [ha]; rfl
    have g3 : ((nth a.toList (0 : Int).toNat).fld 0).toInt = k0 := by rw [ha]; rfl
    have g4 : (b.fld 0).toInt = k0 := by rw [hb]; rfl
    by_cases hk1 : k0 = 1
    · obtain ⟨hn, ea, eb⟩ := hk hk1
      have e1 : pre ++ a :: vs = (pre ++ [a]) ++ vs := by simp
      have e2 : pre' ++ b :: vs' = (pre' ++ [b]) ++ vs' := by simp
      have BI : ∀ k, L46_0 (ev Try.prog sg k) k [.int pre.length, .int (pre ++ a :: vs).length, .list (pre ++ a :: vs), .list (pre ++ a :: vs), s.pv, C] = some (.n, [.int (pre ++ [a]).length, .int (pre ++ a :: vs).length, .list (pre ++ a :: vs), .list (pre ++ a :: vs), s.pv, C]) := by
        intro k
        simp (disch := omega) only [L46_0, nth_0, nth_1, nth_2, nth_3, nth_4, nth_5, toInt_int, toList_list, h1, ltT, geT, iff_true', Int.toNat_natCast, n1, g1, g2, g3, neF, iff_false', wrap64]
        simp
      have BS : ∀ k, L40_0 (ev Try.prog sg k) k [.int pre.length, .list (pre' ++ b :: vs'), s.pv, C, z] = some (.n, [.int (pre ++ [a]).length, .list (pre' ++ b :: vs'), s.pv, C, z]) := by
        intro k
        simp (disch := omega) only [L40_0, nth_0, nth_1, nth_2, nth_3, nth_4, toInt_int, toList_list, h2, ltT, geT, iff_true', Int.toNat_natCast, n2, g4, neF, iff_false', wrap64]
        simp
      have liftI : ∀ r, CI s.pv C ((pre ++ [a]) ++ vs) (pre ++ [a]).length vs.length r → CI s.pv C (pre ++ a :: vs) pre.length (a :: vs).length r := by
        intro r g
        refine g.mp fun k q m hm => ?_
        obtain ⟨m, rfl⟩ : ∃ m', m = m' + 1 := ⟨m - 1, by omega⟩
        have q := q m (by simpa using hm)
        simp only [loopEv, BI, thenN_n]
        rw [← e1] at q
        exact q
      have liftS : ∀ r, CS s.pv C z ((pre' ++ [b]) ++ vs') (pre ++ [a]).length vs.length r → CS s.pv C z (pre' ++ b :: vs') pre.length (a :: vs).length r := by
        intro r g
        refine g.mp fun k q m hm => ?_
        obtain ⟨m, rfl⟩ : ∃ m', m = m' + 1 := ⟨m - 1, by omega⟩
        have q := q m (by simpa using hm)
        simp only [loopEv, BS, thenN_n]
        rw [← e2] at q
        exact q
      rcases chk s hc C z vs vs' (pre ++ [a]) (pre' ++ [b]) hvs (by simp [hp]) (by rw [← e1]; exact hl) with ⟨t1, t2, t3⟩ | ⟨t2, t3⟩
      · refine Or.inl ⟨⟨⟨n, hn, ea, eb⟩, t1⟩, ?_, ?_⟩
        · rw [e1] at *; exact liftI _ t2
        · rw [e2] at *; exact liftS _ t3
      · exact Or.inr ⟨liftI _ t2, liftS _ t3⟩
    · have hs := stuckS s hc
      have hf := failI s hc 2
      refine Or.inr ⟨hf.mp fun k q m hm => ?_, hs.mp fun k q m hm => ?_⟩
      · obtain ⟨m, rfl⟩ : ∃ m', m = m' + 1 := ⟨m - 1, by omega⟩
        simp (disch := omega) only [loopEv, L46_0, nth_0, nth_1, nth_2, nth_3, nth_4, nth_5, toInt_int, toList_list, h1, ltT, geT, iff_true', Int.toNat_natCast, n1, g1, g2, g3, neT hk1, q, Option.bind_some, thenN_r, passE_eq]
      · obtain ⟨m, rfl⟩ : ∃ m', m = m' + 1 := ⟨m - 1, by omega⟩
        simp (disch := omega) only [loopEv, L40_0, nth_0, nth_1, nth_2, nth_3, nth_4, toInt_int, toList_list, h2, ltT, geT, iff_true', Int.toNat_natCast, n2, g4, neT hk1, q, Option.bind_some, thenN_r, passE_eq]
  | [], _ :: _, _, _, h, _, _ => h.elim
  | _ :: _, [], _, _, h, _, _ => h.elim
/-! ### Reckoning -/
theorem intI (n : Int) : Rn 43 [.int n] [vInt n] := Is.of e43 (Evt.all fun k => by simp [F43, vInt])
theorem intS (n : Int) : Rn 34 [.int n] [wInt n] := Is.of e34 (Evt.all fun k => by simp [F34, wInt])
theorem flagI (b : Bool) : Rn 64 [.bool b] [vInt (if b then 1 else 0)] := Is.of e64 ((intI 1).mp2 (intI 0) fun k q1 q2 => by cases b <;> simp [F64, q1, q2])
theorem bitS (b : Bool) : Rn 57 [.bool b] [.int (if b then 1 else 0)] := Is.of e57 (Evt.all fun k => by cases b <;> simp [F57])
def roundR (x : Int) : Int := if arith .and .i64 x 2147483647 > 1073741823 then IntKind.i64.wrap (arith .and .i64 x 2147483647 - 2147483648) else arith .and .i64 x 2147483647
theorem roundR_in (x : Int) : in64 (roundR x) := by
  unfold roundR
  split
  · exact in64_wrap _
  · exact in64_wrap _
def mathR (op a b : Int) : Int :=
  if op = 8 then roundR (IntKind.i64.wrap (a + b)) else if op = 9 then roundR (IntKind.i64.wrap (a - b)) else if op = 10 then roundR (IntKind.i64.wrap (a * b))
  else if op = 11 then (if ltI a b then 1 else 0) else (if eqI a b then 1 else 0)
theorem mathR_in (op a b : Int) : in64 (mathR op a b) := by
  unfold mathR
  repeat' split
  all_goals first
    | exact roundR_in _
    | (unfold in64; omega)
theorem mathI (op a b : Int) : Rn 65 [.int op, .int a, .int b] [vInt (mathR op a b)] := by
  have r1 : Rn 72 [.int (IntKind.i64.wrap (a + b))] [.int (roundR (IntKind.i64.wrap (a + b)))] := round72 _
  have r2 : Rn 72 [.int (IntKind.i64.wrap (a - b))] [.int (roundR (IntKind.i64.wrap (a - b)))] := round72 _
  have r3 : Rn 72 [.int (IntKind.i64.wrap (a * b))] [.int (roundR (IntKind.i64.wrap (a * b)))] := round72 _
  by_cases h8 : op = 8
  · subst h8
    exact Is.of e65 (r1.mp2 (intI (roundR (IntKind.i64.wrap (a + b)))) fun k q1 q2 => by simp [F65, eqI, q1, q2, mathR])
  by_cases h9 : op = 9
  · subst h9
    exact Is.of e65 (r2.mp2 (intI (roundR (IntKind.i64.wrap (a - b)))) fun k q1 q2 => by simp [F65, eqI, q1, q2, mathR])
  by_cases h10 : op = 10
  · subst h10
    exact Is.of e65 (r3.mp2 (intI (roundR (IntKind.i64.wrap (a * b)))) fun k q1 q2 => by simp [F65, eqI, q1, q2, mathR])
  by_cases h11 : op = 11
  · subst h11
    exact Is.of e65 ((flagI (ltI a b)).mp fun k q1 => by simp [F65, eqI, q1, mathR])
  exact Is.of e65 ((flagI (eqI a b)).mp fun k q1 => by simp [F65, eqF h8, eqF h9, eqF h10, eqF h11, q1, mathR, h8, h9, h10, h11])
theorem mathS (op a b : Int) : Rn 58 [.int op, .int a, .int b] [.int (mathR op a b)] := by
  have r1 : Rn 68 [.int (IntKind.i64.wrap (a + b))] [.int (roundR (IntKind.i64.wrap (a + b)))] := round68 _
  have r2 : Rn 68 [.int (IntKind.i64.wrap (a - b))] [.int (roundR (IntKind.i64.wrap (a - b)))] := round68 _
  have r3 : Rn 68 [.int (IntKind.i64.wrap (a * b))] [.int (roundR (IntKind.i64.wrap (a * b)))] := round68 _
  by_cases h8 : op = 8
  · subst h8
    exact Is.of e58 (r1.mp fun k q1 => by simp [F58, eqI, q1, mathR])
  by_cases h9 : op = 9
  · subst h9
    exact Is.of e58 (r2.mp fun k q1 => by simp [F58, eqI, q1, mathR])
  by_cases h10 : op = 10
  · subst h10
    exact Is.of e58 (r3.mp fun k q1 => by simp [F58, eqI, q1, mathR])
  by_cases h11 : op = 11
  · subst h11
    exact Is.of e58 ((bitS (ltI a b)).mp fun k q1 => by simp [F58, eqI, q1, mathR])
  exact Is.of e58 ((bitS (eqI a b)).mp fun k q1 => by simp [F58, eqF h8, eqF h9, eqF h10, eqF h11, q1, mathR, h8, h9, h10, h11])
/-! ### Both are alike, kids first -/
theorem VRs.two {vs vs' : List PV} (h : VRs vs vs') (hl : vs.length = 2) : ∃ a b a' b', vs = [a, b] ∧ vs' = [a', b'] ∧ VR a a' ∧ VR b b' := by
  match vs, vs', hl with
  | [a, b], [a', b'], _ => exact ⟨a, b, a', b', rfl, rfl, h.1, h.2.1⟩
  | [a, b], [], _ => exact h.elim
  | [a, b], [_], _ => exact h.2.elim
  | [a, b], _ :: _ :: _ :: _, _ => exact h.2.2.elim
theorem VRs.one {vs vs' : List PV} (h : VRs vs vs') (hl : vs.length = 1) : ∃ a a', vs = [a] ∧ vs' = [a'] ∧ VR a a' := by
  match vs, vs', hl with
  | [a], [a'], _ => exact ⟨a, a', rfl, rfl, h.1⟩
  | [a], [], _ => exact h.elim
  | [a], _ :: _ :: _, _ => exact h.2.elim
def Pl (s : St) (C : PV) (vs vs' : List PV) : Prop := ∃ v v' s', Rn 46 [s.pv, C, .list vs] [v, St.pv s'] ∧ Rn 40 [s.pv, C, .list vs'] [v', St.pv s'] ∧ s'.ok ∧ s'.f ≤ s.f ∧ s'.pot ≤ s.pot + 1 ∧ (s'.c = 0 → VR v v')
section
variable {s : St} {C : PV}
theorem pl_cons (hc : s.c = 0) (hok : s.ok) (hC : C.fld 0 = .int 14) {a b a' b' : PV} (ha : VR a a') (hb : VR b b') : Pl s C [a, b] [a', b'] := by
  refine ⟨_, _, s, Is.of (r := [.list [.agg [.int 3, .int 0, a, b, .str e0, zc, .list []]], s.pv]) e46 (Evt.all fun k => ?_), Is.of (r := [.agg [.int 3, .int 0, .list [a', b'], zc, .str e0, .str e0, .list []], s.pv]) e40 (Evt.all fun k => ?_), hok, Int.le_refl _, by omega, fun _ => VR.pair ha hb⟩
  · simp [F46, hC, eqI, ltI, geI]
  · simp [F40, hC, eqI, St.pv, hc, neI]
theorem pl_pair (hc : s.c = 0) (hok : s.ok) (hC : C.fld 0 = .int 17) {a a' : PV} (ha : VR a a') : Pl s C [a] [a'] := by
  obtain ⟨k0, n, p, q, r, bd, env, ks, bd', ar, sf, en, ea, eb, hk⟩ := ha.shape
  have g1 : gtI (a.toList.length : Int) 0 = true := by rw [ea]; rfl
  have g2 : ((nth a.toList 0).fld 0).toInt = k0 := by rw [ea]; rfl
  have g4 : (a'.fld 0).toInt = k0 := by rw [eb]; rfl
  have hr : in64 (if eqI k0 3 then 1 else 0) := by unfold in64; split <;> omega
  refine ⟨_, _, s, Is.of (r := [vInt (if eqI k0 3 then 1 else 0), s.pv]) e46 ((flagI (eqI k0 3)).mp fun k q => ?_), Is.of (r := [wInt (if eqI k0 3 then 1 else 0), s.pv]) e40 ((bitS (eqI k0 3)).mp2 (intS (if eqI k0 3 then 1 else 0)) fun k q1 q2 => ?_), hok, Int.le_refl _, by omega, fun _ => VR.ofInt hr⟩
  · have e4 : eqI (17 : Int) 4 = false := rfl
    have e14 : eqI (17 : Int) 14 = false := rfl
    have e17 : eqI (17 : Int) 17 = true := rfl
    have l0 : ltI (0 : Int) (([a] : List PV).length : Int) = true := rfl
    have n0 : nth [a] (Int.toNat 0) = a := rfl
    have g3 : ((nth a.toList (Int.toNat 0)).fld 0).toInt = k0 := by rw [ea]; rfl
    have ge0 : geI (0 : Int) 0 = true := rfl
    simp only [F46, nth_0, nth_1, nth_2, hC, toInt_int, e4, e14, e17, iff_false', iff_true', l0, ge0, toList_list, n0, g1, g2, g3, q, Option.bind_some]
  · have e13 : eqI (17 : Int) 13 = false := rfl
    have e14 : eqI (17 : Int) 14 = false := rfl
    have e15 : eqI (17 : Int) 15 = false := rfl
    have e16 : eqI (17 : Int) 16 = false := rfl
    have e17 : eqI (17 : Int) 17 = true := rfl
    have hne : neI (0 : Int) 0 = false := rfl
    simp [F40, hC, St.pv, hc, hne, e13, e14, e15, e16, e17, ltI, geI, g4, q1, q2]
theorem stuckPl (hc : s.c = 0) (hok : s.ok) {vs vs' : List PV} (h1 : Rn 46 [s.pv, C, .list vs] [vNil, (St.mk s.f 2 s.o).pv]) (h2 : Rn 40 [s.pv, C, .list vs'] [wZero, (St.mk s.f 2 s.o).pv]) : Pl s C vs vs' :=
  ⟨vNil, wZero, ⟨s.f, 2, s.o⟩, h1, h2, St.ok_c hok (Or.inr rfl), Int.le_refl _, by show s.pot ≤ s.pot + 1; omega, fun h => by have h : (2 : Int) = 0 := h; omega⟩
theorem pl_car (hc : s.c = 0) (hok : s.ok) {op : Int} (hop : op = 15 ∨ op = 16) (hC : C.fld 0 = .int op) {a a' : PV} (ha : VR a a') : Pl s C [a] [a'] := by
  have hs := stuckS s hc
  have hf := failI s hc 2
  have hS' : St.pv s = .agg [.int s.f, .int 0, ints s.o] := by simp [St.pv, hc]
  cases ha with
  | int n h =>
    refine stuckPl hc hok (Is.of e46 (hf.mp fun k q => ?_)) (Is.of e40 (hs.mp fun k q => ?_))
    · rcases hop with rfl | rfl <;> simp [F46, hC, eqI, ltI, geI, gtI, neI, q]
    · rw [hS'] at q ⊢
      rcases hop with rfl | rfl <;> simp [F40, hC, eqI, ltI, geI, gtI, neI, q]
  | nil =>
    refine stuckPl hc hok (Is.of e46 (hf.mp fun k q => ?_)) (Is.of e40 (hs.mp fun k q => ?_))
    · rcases hop with rfl | rfl <;> simp [F46, hC, eqI, ltI, geI, gtI, neI, q]
    · rw [hS'] at q ⊢
      rcases hop with rfl | rfl <;> simp [F40, hC, eqI, ltI, geI, gtI, neI, q]
  | clo arg c h1 h2 h3 =>
    refine stuckPl hc hok (Is.of e46 (hf.mp fun k q => ?_)) (Is.of e40 (hs.mp fun k q => ?_))
    · rcases hop with rfl | rfl <;> simp [F46, hC, eqI, ltI, geI, gtI, neI, q]
    · rw [hS'] at q ⊢
      rcases hop with rfl | rfl <;> simp [F40, hC, eqI, ltI, geI, gtI, neI, q]
  | recf self arg c h1 h2 h3 h4 =>
    refine stuckPl hc hok (Is.of e46 (hf.mp fun k q => ?_)) (Is.of e40 (hs.mp fun k q => ?_))
    · rcases hop with rfl | rfl <;> simp [F46, hC, eqI, ltI, geI, gtI, neI, q]
    · rw [hS'] at q ⊢
      rcases hop with rfl | rfl <;> simp [F40, hC, eqI, ltI, geI, gtI, neI, q]
  | pair g1 g2 =>
    rename_i x y x' y'
    rcases hop with rfl | rfl
    · refine ⟨x, x', s, Is.of e46 (Evt.all fun k => ?_), Is.of e40 ((bitS false).mp fun k q => ?_), hok, Int.le_refl _, by omega, fun _ => g1⟩
      · simp [F46, hC, eqI, ltI, geI, gtI, neI]
      · rw [hS']
        simp at q
        simp [F40, hC, eqI, ltI, geI, gtI, neI, q]
    · refine ⟨y, y', s, Is.of e46 (Evt.all fun k => ?_), Is.of e40 ((bitS true).mp fun k q => ?_), hok, Int.le_refl _, by omega, fun _ => g2⟩
      · simp [F46, hC, eqI, ltI, geI, gtI, neI]
      · rw [hS']
        simp at q
        simp [F40, hC, eqI, ltI, geI, gtI, neI, q]
end
section
variable {s : St} {C : PV}
theorem pl_put (hc : s.c = 0) (hok : s.ok) (hp : s.pot ≤ 3999) (hC : C.fld 0 = .int 18) {a a' : PV} (ha : VR a a') : Pl s C [a] [a'] := by
  have hS' : St.pv s = .agg [.int s.f, .int 0, ints s.o] := by simp [St.pv, hc]
  have hlen : s.o.length ≤ 3999 := by unfold St.pot at hp; omega
  rcases chk s hc C wZero [a] [a'] [] [] ⟨ha, trivial⟩ rfl (by simp) with ⟨t1, t2, t3⟩ | ⟨t2, t3⟩
  · obtain ⟨⟨n, hn, rfl, rfl⟩, _⟩ := t1
    have hm : (ints s.o).toList.length = s.o.length := List.length_map ..
    have hfin : (St.mk s.f 0 (s.o ++ [n])).pv = .agg [.int s.f, .int 0, .list ((ints s.o).toList ++ [.int n])] := by simp [St.pv, ints]
    have hle : leN (s.o.length + 1) 17592186044416 = true := leNT (by omega)
    refine ⟨vInt n, wInt n, ⟨s.f, 0, s.o ++ [n]⟩, Is.of e46 (t2.mp2 (Evt.ge 5) fun k q hk => ?_), Is.of e40 (t3.mp2 (Evt.ge 5) fun k q hk => ?_), ?_, Int.le_refl _, ?_, fun _ => VR.ofInt hn⟩
    · have q := q k (by simp; omega)
      have q' : loopEv (L46_0 (ev Try.prog sg k) k) k [.int 0, .int 1, .list [vInt n], .list [vInt n], s.pv, C] = some (.x 1, [.list [vInt n], s.pv, C]) := q
      have w1 : (nth (vInt n).toList 0).fld 1 = .int n := rfl
      have w2 : gtI ((vInt n).toList.length : Int) 0 = true := rfl
      rw [hS'] at q' ⊢
      rw [hfin]
      simp [F46, hC, eqI, ltI, geI, q', w1, w2, hle, hm]
    · have q := q k (by simp; omega)
      have q' : loopEv (L40_0 (ev Try.prog sg k) k) k [.int 0, .list [wInt n], s.pv, C, wZero] = some (.x 1, [.list [wInt n], s.pv, C, wZero]) := q
      have w1 : (wInt n).fld 1 = .int n := rfl
      rw [hS'] at q' ⊢
      rw [hfin]
      simp [F40, hC, eqI, neI, ltI, geI, q', w1, hle, hm]
    · obtain ⟨k1, k2, k3, k4, k5⟩ := hok
      refine ⟨k1, k2, ?_, ?_, Or.inl rfl⟩
      · unfold St.pot at hp ⊢
        simp only [List.length_append, List.length_cons, List.length_nil]
        omega
      · intro x hx
        rcases List.mem_append.1 hx with h | h
        · exact k4 x h
        · rw [List.mem_singleton.1 h]; exact hn
    · unfold St.pot
      simp only [List.length_append, List.length_cons, List.length_nil]
      omega
  · refine stuckPl hc hok (Is.of e46 (t2.mp2 (Evt.ge 5) fun k q hk => ?_)) (Is.of e40 (t3.mp2 (Evt.ge 5) fun k q hk => ?_))
    · have q := q k (by simp; omega)
      have q' : loopEv (L46_0 (ev Try.prog sg k) k) k [.int 0, .int 1, .list [a], .list [a], s.pv, C] = some (.r, [(St.mk s.f 2 s.o).pv, vNil]) := q
      rw [hS'] at q' ⊢
      simp [F46, hC, eqI, q']
    · have q := q k (by simp; omega)
      have q' : loopEv (L40_0 (ev Try.prog sg k) k) k [.int 0, .list [a'], s.pv, C, wZero] = some (.r, [(St.mk s.f 2 s.o).pv, wZero]) := q
      rw [hS'] at q' ⊢
      simp [F40, hC, eqI, neI, q']
theorem pl_math (hc : s.c = 0) (hok : s.ok) {op : Int} (hop : 8 ≤ op ∧ op ≤ 12) (hC : C.fld 0 = .int op) {a a' b b' : PV} (ha : VR a a') (hb : VR b b') : Pl s C [a, b] [a', b'] := by
  have hS' : St.pv s = .agg [.int s.f, .int 0, ints s.o] := by simp [St.pv, hc]
  have o4 : eqI op 4 = false := eqF (by omega)
  have o13 : eqI op 13 = false := eqF (by omega)
  have o14 : eqI op 14 = false := eqF (by omega)
  have o15 : eqI op 15 = false := eqF (by omega)
  have o16 : eqI op 16 = false := eqF (by omega)
  have o17 : eqI op 17 = false := eqF (by omega)
  have o18 : eqI op 18 = false := eqF (by omega)
  have ne0 : neI (0 : Int) 0 = false := rfl
  rcases chk s hc C wZero [a, b] [a', b'] [] [] ⟨ha, hb, trivial⟩ rfl (by simp) with ⟨t1, t2, t3⟩ | ⟨t2, t3⟩
  · obtain ⟨⟨n, hn, rfl, rfl⟩, ⟨m, hm, rfl, rfl⟩, _⟩ := t1
    refine ⟨vInt (mathR op n m), wInt (mathR op n m), s, Is.of e46 ((t2.and (Evt.ge 5)).mp2 (mathI op n m) fun k q qm => ?_), Is.of e40 ((t3.and (Evt.ge 5)).mp3 (mathS op n m) (intS (mathR op n m)) fun k q qm qi => ?_), hok, Int.le_refl _, by omega, fun _ => VR.ofInt (mathR_in op n m)⟩
    · obtain ⟨q, hk⟩ := q
      have q := q k (by simp; omega)
      have q' : loopEv (L46_0 (ev Try.prog sg k) k) k [.int 0, .int 2, .list [vInt n, vInt m], .list [vInt n, vInt m], s.pv, C] = some (.x 1, [.list [vInt n, vInt m], s.pv, C]) := q
      have w1 : ∀ x, (nth (vInt x).toList 0).fld 1 = .int x := fun _ => rfl
      have w2 : ∀ x, gtI ((vInt x).toList.length : Int) 0 = true := fun _ => rfl
      rw [hS'] at q' ⊢
      simp [F46, hC, o4, o14, o15, o16, o17, o18, ltI, geI, q', w1, w2, qm]
    · obtain ⟨q, hk⟩ := q
      have q := q k (by simp; omega)
      have q' : loopEv (L40_0 (ev Try.prog sg k) k) k [.int 0, .list [wInt n, wInt m], s.pv, C, wZero] = some (.x 1, [.list [wInt n, wInt m], s.pv, C, wZero]) := q
      have w1 : ∀ x, (wInt x).fld 1 = .int x := fun _ => rfl
      rw [hS'] at q' ⊢
      simp [F40, hC, o13, o14, o15, o16, o17, o18, ne0, ltI, geI, q', w1, qm, qi]
  · refine stuckPl hc hok (Is.of e46 (t2.mp2 (Evt.ge 5) fun k q hk => ?_)) (Is.of e40 (t3.mp2 (Evt.ge 5) fun k q hk => ?_))
    · have q := q k (by simp; omega)
      have q' : loopEv (L46_0 (ev Try.prog sg k) k) k [.int 0, .int 2, .list [a, b], .list [a, b], s.pv, C] = some (.r, [(St.mk s.f 2 s.o).pv, vNil]) := q
      rw [hS'] at q' ⊢
      simp [F46, hC, o4, o14, o15, o16, o17, o18, q']
    · have q := q k (by simp; omega)
      have q' : loopEv (L40_0 (ev Try.prog sg k) k) k [.int 0, .list [a', b'], s.pv, C, wZero] = some (.r, [(St.mk s.f 2 s.o).pv, wZero]) := q
      rw [hS'] at q' ⊢
      simp [F40, hC, o13, o14, o15, o16, o17, o18, ne0, q']
def Ap (s : St) (C : PV) (a b a' b' : PV) : Prop := ∃ v v' s', Rn 46 [s.pv, C, .list [a, b]] [v, St.pv s'] ∧ Rn 37 [s.pv, a', b'] [v', St.pv s'] ∧ Res s s' v v'
theorem stuckAp (hc : s.c = 0) (hok : s.ok) {a b a' b' : PV} (h1 : Rn 46 [s.pv, C, .list [a, b]] [vNil, (St.mk s.f 2 s.o).pv]) (h2 : Rn 37 [s.pv, a', b'] [wZero, (St.mk s.f 2 s.o).pv]) : Ap s C a b a' b' :=
  ⟨vNil, wZero, ⟨s.f, 2, s.o⟩, h1, h2, Res.stuck hok (Or.inr rfl) _ _⟩
theorem app {N : Nat} (IH : EvAt N) (hf : s.f.toNat ≤ N) (hc : s.c = 0) (hok : s.ok) (hC : C.fld 0 = .int 4) {a b a' b' : PV} (ha : VR a a') (hb : VR b b') : Ap s C a b a' b' := by
  have hs := stuckS s hc
  have hfl := failI s hc 2
  have hS' : St.pv s = .agg [.int s.f, .int 0, ints s.o] := by simp [St.pv, hc]
  cases ha with
  | int n h =>
    refine stuckAp hc hok (Is.of e46 (hfl.mp fun k q => ?_)) (Is.of e37 (hs.mp fun k q => ?_))
    · simp [F46, hC, eqI, ltI, geI, gtI, neI, q]
    · rw [hS'] at q ⊢
      simp [F37, neI, q]
  | nil =>
    refine stuckAp hc hok (Is.of e46 (hfl.mp fun k q => ?_)) (Is.of e37 (hs.mp fun k q => ?_))
    · simp [F46, hC, eqI, ltI, geI, gtI, neI, q]
    · rw [hS'] at q ⊢
      simp [F37, neI, q]
  | pair g1 g2 =>
    refine stuckAp hc hok (Is.of e46 (hfl.mp fun k q => ?_)) (Is.of e37 (hs.mp fun k q => ?_))
    · simp [F46, hC, eqI, ltI, geI, gtI, neI, q]
    · rw [hS'] at q ⊢
      simp [F37, neI, q]
  | clo arg c h1 h2 h3 =>
    rename_i e es
    obtain ⟨v, v', s', r1, r2, r3⟩ := IH s c _ _ hc hf hok h1 (ER.val arg hb h3) (by simp only [List.length_append, List.length_cons, List.length_nil]; omega)
    have hbd := bindS (es := es) arg b' (by omega)
    have hx : cmpS .neq (⟨#[]⟩ : ByteArray) ⟨#[]⟩ = false := by rw [neq_eqS, eqS_refl]; rfl
    refine ⟨v, v', s', Is.of e46 (r1.mp fun k q => ?_), Is.of e37 (hbd.mp2 r2 fun k q1 q2 => ?_), r3⟩
    · simp [F46, hC, eqI, ltI, geI, gtI, neI, q]
    · rw [hS'] at q2 ⊢
      simp [F37, neI, hx, q1, q2]
  | recf self arg c h1 h2 h3 h4 =>
    rename_i up es
    obtain ⟨v, v', s', r1, r2, r3⟩ := IH s c _ _ hc hf hok h1 (ER.val arg hb (ER.recf self arg c h1 h2 h3 h4)) (by simp only [List.length_append, List.length_cons, List.length_nil]; omega)
    have hb1 := bindS (es := es) self (.agg [.int 4, .int 0, .list [], c.pv, .str arg, .str self, .list es]) (by omega)
    have hb2 := bindS (es := es ++ [.agg [.str self, .agg [.int 4, .int 0, .list [], c.pv, .str arg, .str self, .list es]]]) arg b' (by simp; omega)
    have hx : cmpS .neq self ⟨#[]⟩ = true := by rw [neq_eqS, h2]; rfl
    refine ⟨v, v', s', Is.of e46 (r1.mp fun k q => ?_), Is.of e37 (hb1.mp3 hb2 r2 fun k q1 q2 q3 => ?_), r3⟩
    · simp [F46, hC, eqI, ltI, geI, gtI, neI, q]
    · rw [hS'] at q3 ⊢
      simp only [List.append_assoc, List.cons_append, List.nil_append] at q1 q2 q3
      simp [F37, neI, hx, q1, q2, q3]
end
end Go.Proofs.Ytdkfgnnebaahaaa.GFnExactEval
