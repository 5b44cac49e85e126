/- What functions of the program and of the reference come to, for the law FnExactEval. Each under the conditions that it names. -/
import Derived.Test.YtdkfgnnebaahaaaCFnExactEval
namespace Go.Proofs.Ytdkfgnnebaahaaa.GFnExactEval
open Go Go.Rsc Go.Proofs.Ytdkfgnnebaahaaa
set_option maxRecDepth 100000
set_option linter.unusedVariables false
set_option linter.unusedSimpArgs false
local notation "e0" => (⟨#[]⟩ : ByteArray)
local notation "zc" => PV.agg [PV.int 0, PV.int 0, PV.str (⟨#[]⟩ : ByteArray), PV.str (⟨#[]⟩ : ByteArray), PV.list []]
local notation "vNil" => PV.list [PV.agg [PV.int 2, PV.int 0, PV.list [], PV.list [], PV.str (⟨#[]⟩ : ByteArray), PV.agg [PV.int 0, PV.int 0, PV.str (⟨#[]⟩ : ByteArray), PV.str (⟨#[]⟩ : ByteArray), PV.list []], PV.list []]]
local notation "wZero" => PV.agg [PV.int 0, PV.int 0, PV.list [], PV.agg [PV.int 0, PV.int 0, PV.str (⟨#[]⟩ : ByteArray), PV.str (⟨#[]⟩ : ByteArray), PV.list []], PV.str (⟨#[]⟩ : ByteArray), PV.str (⟨#[]⟩ : ByteArray), PV.list []]
set_option maxHeartbeats 8000000
/-! ### Values and names at work, as both have them -/
set_option maxHeartbeats 8000000
def ints (l : List Int) : PV := .list (l.map PV.int)
def in64 (x : Int) : Prop := -9223372036854775808 ≤ x ∧ x < 9223372036854775808
mutual
def Co.fit : Co → Bool
  | .mk op n s t ks => decide (1 ≤ op ∧ op ≤ 18) && (eqI (arC op) ks.length && ((!eqI op 6 || !eqS s ⟨#[]⟩) && (okW n && Co.fits ks)))
def Co.fits : List Co → Bool
  | [] => true
  | c :: l => c.fit && Co.fits l
end
mutual
inductive VR : PV → PV → Prop
  | int (n : Int) : in64 n → VR (.list [.agg [.int 1, .int n, .list [], .list [], .str e0, zc, .list []]]) (.agg [.int 1, .int n, .list [], zc, .str e0, .str e0, .list []])
  | nil : VR (.list [.agg [.int 2, .int 0, .list [], .list [], .str e0, zc, .list []]]) (.agg [.int 2, .int 0, .list [], zc, .str e0, .str e0, .list []])
  | pair {a b a' b' : PV} : VR a a' → VR b b' → VR (.list [.agg [.int 3, .int 0, a, b, .str e0, zc, .list []]]) (.agg [.int 3, .int 0, .list [a', b'], zc, .str e0, .str e0, .list []])
  | clo (arg : ByteArray) (c : Co) {e : PV} {es : List PV} : c.fit = true → es.length + 1 + 2 * c.deep ≤ 1000 → ER e es → VR (.list [.agg [.int 4, .int 0, .list [], .list [], .str arg, c.pv, e]]) (.agg [.int 4, .int 0, .list [], c.pv, .str arg, .str e0, .list es])
  | recf (self arg : ByteArray) (c : Co) {up : PV} {es : List PV} : c.fit = true → eqS self ⟨#[]⟩ = false → es.length + 2 + 2 * c.deep ≤ 1000 → ER up es →
      VR (.list [.agg [.int 4, .int 0, .list [], .list [], .str arg, c.pv, .list [.agg [.str self, .agg [.agg [.int 4, .int 0, .list [], .list [], .str arg, c.pv, .unit]], up]]]]) (.agg [.int 4, .int 0, .list [], c.pv, .str arg, .str self, .list es])
inductive ER : PV → List PV → Prop
  | nil : ER (.list []) []
  | val (s : ByteArray) {v v' up : PV} {es : List PV} : VR v v' → ER up es → ER (.list [.agg [.str s, v, up]]) (es ++ [.agg [.str s, v']])
  | recf (self arg : ByteArray) (c : Co) {up : PV} {es : List PV} : c.fit = true → eqS self ⟨#[]⟩ = false → es.length + 2 + 2 * c.deep ≤ 1000 → ER up es →
      ER (.list [.agg [.str self, .agg [.agg [.int 4, .int 0, .list [], .list [], .str arg, c.pv, .unit]], up]]) (es ++ [.agg [.str self, .agg [.int 4, .int 0, .list [], c.pv, .str arg, .str self, .list es]]])
end
theorem unrec_val {v v' : PV} (h : VR v v') (s : ByteArray) (up : PV) : unrec (.list [.agg [.str s, v, up]]) = v := by
  cases h <;> rfl
theorem unrec_rec (self arg : ByteArray) (c up : PV) : unrec (.list [.agg [.str self, .agg [.agg [.int 4, .int 0, .list [], .list [], .str arg, c, .unit]], up]]) = .list [.agg [.int 4, .int 0, .list [], .list [], .str arg, c, .list [.agg [.str self, .agg [.agg [.int 4, .int 0, .list [], .list [], .str arg, c, .unit]], up]]]] := rfl
/-! ### A name is looked for -/
section
variable {nm : ByteArray}
def lookI (nm : ByteArray) (N : Nat) (e : PV) (r : PV → Ex × List PV) : Prop := ∀ c s : PV, c.fld 2 = .str nm → Evt fun k => ∀ m, N + 1 ≤ m → loopEv (L21_0 (ev Try.prog sg k) k) m [e, c, s] = some (r s)
def lookS (nm : ByteArray) (N : Nat) (es : List PV) (r : PV → PV → Ex × List PV) : Prop := ∀ (post : List PV) (w z : PV), N + post.length ≤ 100000 → Evt fun k => ∀ m, N + 1 ≤ m → loopEv (L8227_0 (ev Try.prog sg k) k) m [.int ((N : Int) - 1), .str nm, .list (es ++ post), w, z] = some (r w z)
theorem look_hitI {x up v : PV} (s : ByteArray) (hq : eqS s nm = true) (hu : unrec (.list [.agg [.str s, x, up]]) = v) (N : Nat) : lookI nm (N + 1) (.list [.agg [.str s, x, up]]) fun s => (.r, [s, v]) := by
  intro c st hc
  refine Evt.all fun k m hm => ?_
  obtain ⟨m, rfl⟩ : ∃ m', m = m' + 1 := ⟨m - 1, by omega⟩
  have hq : cmpS .eql s nm = true := hq
  simp [loopEv, L21_0, gtI, hc, hq, hu]
theorem look_missI {x up : PV} (s : ByteArray) (hq : eqS s nm = false) {N : Nat} {r : PV → Ex × List PV} (h : lookI nm N up r) : lookI nm (N + 1) (.list [.agg [.str s, x, up]]) r := by
  intro c st hc
  refine (h c st hc).mp fun k h m hm => ?_
  obtain ⟨m, rfl⟩ : ∃ m', m = m' + 1 := ⟨m - 1, by omega⟩
  have hq : cmpS .eql s nm = false := hq
  have hB : L21_0 (ev Try.prog sg k) k [.list [.agg [.str s, x, up]], c, st] = some (.n, [up, c, st]) := by
    simp [L21_0, gtI, hc, hq]
  simp only [loopEv, hB, thenN_n]
  exact h m (by omega)
theorem look_hitS {es : List PV} {v' : PV} (s : ByteArray) (hq : eqS s nm = true) {N : Nat} (hN : es.length = N) (hb : N ≤ 1000) : lookS nm (N + 1) (es ++ [.agg [.str s, v']]) fun w _ => (.r, [w, v']) := by
  intro post w z hp
  refine Evt.all fun k m hm => ?_
  obtain ⟨m, rfl⟩ : ∃ m', m = m' + 1 := ⟨m - 1, by omega⟩
  have hq : cmpS .eql s nm = true := hq
  have hn : nth (es ++ [.agg [.str s, v']] ++ post) N = .agg [.str s, v'] := by
    rw [List.append_assoc, ← hN]; exact nth_mid es post _
  have hl : (es ++ [PV.agg [.str s, v']] ++ post).length = N + 1 + post.length := by simp [hN]; omega
  have hi : (((N + 1 : Nat) : Int) - 1) = N := by omega
  have hB : L8227_0 (ev Try.prog sg k) k [.int (((N + 1 : Nat) : Int) - 1), .str nm, .list (es ++ [.agg [.str s, v']] ++ post), w, z] = some (.r, [w, v']) := by
    rw [hi]
    simp (disch := omega) only [L8227_0, nth_0, nth_1, nth_2, nth_3, toInt_int, toList_list, hl, ltT, geT, iff_true', Int.toNat_natCast, hn, fld_agg, toStr_str, hq]
  simp only [loopEv, hB]
  rfl
theorem look_missS {es : List PV} {v' : PV} (s : ByteArray) (hq : eqS s nm = false) {N : Nat} (hN : es.length = N) (hb : N ≤ 1000) {r : PV → PV → Ex × List PV} (h : lookS nm N es r) : lookS nm (N + 1) (es ++ [.agg [.str s, v']]) r := by
  intro post w z hp
  have h := h ([.agg [.str s, v']] ++ post) w z (by simp; omega)
  refine h.mp fun k h m hm => ?_
  obtain ⟨m, rfl⟩ : ∃ m', m = m' + 1 := ⟨m - 1, by omega⟩
  have hq : cmpS .eql s nm = false := hq
  have hn : nth (es ++ [.agg [.str s, v']] ++ post) N = .agg [.str s, v'] := by
    rw [List.append_assoc, ← hN]; exact nth_mid es post _
  have hl : (es ++ [PV.agg [.str s, v']] ++ post).length = N + 1 + post.length := by simp [hN]; omega
  have hi : (((N + 1 : Nat) : Int) - 1) = N := by omega
  have hB : L8227_0 (ev Try.prog sg k) k [.int (((N + 1 : Nat) : Int) - 1), .str nm, .list (es ++ [.agg [.str s, v']] ++ post), w, z] = some (.n, [.int ((N : Int) - 1), .str nm, .list (es ++ [.agg [.str s, v']] ++ post), w, z]) := by
    rw [hi]
    simp (disch := omega) only [L8227_0, nth_0, nth_1, nth_2, nth_3, nth_4, toInt_int, toList_list, hl, ltT, geT, iff_true', Int.toNat_natCast, hn, fld_agg, toStr_str, hq, iff_false', wrap64]
  simp only [loopEv, hB, thenN_n]
  rw [List.append_assoc]
  exact h m (by omega)
theorem look : ∀ (N : Nat) (e : PV) (es : List PV), es.length = N → N ≤ 1000 → ER e es →
    (∃ v v', VR v v' ∧ lookI nm N e (fun s => (.r, [s, v])) ∧ lookS nm N es (fun w _ => (.r, [w, v']))) ∨ (lookI nm N e (fun s => (.x 1, [s])) ∧ lookS nm N es (fun w z => (.x 0, [w, z]))) := by
  intro N
  induction N with
  | zero =>
    intro e es hl hb h
    cases h with
    | nil =>
      refine Or.inr ⟨fun c s hc => Evt.all fun k m hm => ?_, fun post w z hp => Evt.all fun k m hm => ?_⟩
      · obtain ⟨m, rfl⟩ : ∃ m', m = m' + 1 := ⟨m - 1, by omega⟩
        simp [loopEv, L21_0, gtI]
      · obtain ⟨m, rfl⟩ : ∃ m', m = m' + 1 := ⟨m - 1, by omega⟩
        simp [loopEv, L8227_0, geI]
    | val s hv he => simp at hl
    | recf self arg c h1 h2 h3 he => simp at hl
  | succ N ih =>
    intro e es hl hb h
    cases h with
    | nil => simp at hl
    | val s hv he =>
      rename_i v v' up es
      have hl : es.length = N := by simpa using hl
      cases hq : eqS s nm with
      | true => exact Or.inl ⟨v, v', hv, look_hitI s hq (unrec_val hv s up) N, look_hitS s hq hl (by omega)⟩
      | false =>
        rcases ih up es hl (by omega) he with ⟨x, x', hx, h1, h2⟩ | ⟨h1, h2⟩
        · exact Or.inl ⟨x, x', hx, look_missI s hq h1, look_missS s hq hl (by omega) h2⟩
        · exact Or.inr ⟨look_missI s hq h1, look_missS s hq hl (by omega) h2⟩
    | recf self arg c g1 g2 g3 he =>
      rename_i up es
      have hl : es.length = N := by simpa using hl
      cases hq : eqS self nm with
      | true => exact Or.inl ⟨_, _, VR.recf self arg c g1 g2 g3 he, look_hitI self hq (unrec_rec self arg c.pv up) N, look_hitS self hq hl (by omega)⟩
      | false =>
        rcases ih up es hl (by omega) he with ⟨x, x', hx, h1, h2⟩ | ⟨h1, h2⟩
        · exact Or.inl ⟨x, x', hx, look_missI self hq h1, look_missS self hq hl (by omega) h2⟩
        · exact Or.inr ⟨look_missI self hq h1, look_missS self hq hl (by omega) h2⟩
end
mutual
theorem fit_of : ∀ (c : Co) (env : List ByteArray), c.right env = true → c.fit = true
  | .mk op n s t ks, env, h => by
    simp only [Co.right, Bool.and_eq_true] at h
    obtain ⟨h1, h2⟩ := h
    have h3 := fits_of ks op s t 0 env h2
    simp only [hdC, Bool.and_eq_true, Bool.not_eq_true'] at h1
    obtain ⟨⟨⟨⟨⟨a1, a2⟩, a3⟩, a4⟩, a5⟩, a6⟩ := h1
    have b1 : arC op = ks.length := by simpa [neI] using a1
    have b2 : 1 ≤ op ∧ op ≤ 18 := by
      by_cases hb : 1 ≤ op ∧ op ≤ 18
      · exact hb
      · have : arC op = -1 := by
          unfold arC
          rw [if_neg (by omega), if_neg (by omega), if_neg (by omega), if_neg (by omega)]
        omega
    simp only [Co.fit, h3, a5, Bool.and_true, eqT b1, Bool.true_and]
    simp only [decide_eq_true b2, Bool.true_and]
    cases h6 : eqI op 6
    · rfl
    · rw [h6] at a3
      cases hs : eqS s ⟨#[]⟩
      · rfl
      · exfalso
        have hn : nmC op = true := by
          have : op = 6 := by simpa [eqI] using h6
          subst this
          rfl
        rw [hn, hs] at a2
        simp at a2
theorem fits_of : ∀ (ks : List Co) (op : Int) (s t : ByteArray) (i : Nat) (env : List ByteArray), Co.rights ks op s t i env = true → Co.fits ks = true
  | [], op, s, t, i, env, _ => rfl
  | c :: ks, op, s, t, i, env, h => by
    simp only [Co.rights, Bool.and_eq_true] at h
    simp only [Co.fits, fit_of c _ h.1, fits_of ks _ _ _ _ _ h.2, Bool.and_true]
end
/-! ### Both evaluate a core alike -/
set_option maxHeartbeats 8000000
structure St where
  f : Int
  c : Int
  o : List Int
def St.pv (s : St) : PV := .agg [.int s.f, .int s.c, ints s.o]
def St.pot (s : St) : Nat := s.o.length + s.f.toNat
def St.ok (s : St) : Prop := s.f ≤ 4000 ∧ -9223372036854775808 ≤ s.f ∧ s.pot ≤ 4000 ∧ (∀ x, x ∈ s.o → in64 x) ∧ (s.c = 0 ∨ s.c = 1 ∨ s.c = 2)
def Res (s s' : St) (v v' : PV) : Prop := s'.ok ∧ s'.f ≤ s.f ∧ s'.pot ≤ s.pot ∧ (s'.c = 0 → VR v v')
def Ev2 (s : St) (c : Co) (e : PV) (es : List PV) : Prop := ∃ v v' s', Rn 21 [s.pv, c.pv, e] [v, St.pv s'] ∧ Rn 16 [s.pv, c.pv, .list es] [v', St.pv s'] ∧ Res s s' v v'
def EvAt (N : Nat) : Prop := ∀ (s : St) (c : Co) (e : PV) (es : List PV), s.c = 0 → s.f.toNat ≤ N → s.ok → c.fit = true → ER e es → es.length + 2 * c.deep ≤ 1000 → Ev2 s c e es
theorem failI (s : St) (hc : s.c = 0) (x : Int) : Rn 4138 [s.pv, .int x] [vNil, (St.mk s.f x s.o).pv] :=
  Is.of e4138 (Evt.all fun n => by simp [F4138, St.pv, hc, eqI])
theorem stuckS (s : St) (hc : s.c = 0) : Rn 4135 [s.pv] [wZero, (St.mk s.f 2 s.o).pv] :=
  Is.of e4135 (Evt.all fun n => by simp [F4135, St.pv, hc, eqI])
theorem deadE (s : St) (hc : s.c ≠ 0) (c es : PV) : Rn 16 [s.pv, c, es] [wZero, s.pv] :=
  Is.of e16 (Evt.all fun n => by have := neT hc; simp [F16, St.pv, this])
theorem deadC (s : St) (hc : s.c ≠ 0) (f a : PV) : Rn 37 [s.pv, f, a] [wZero, s.pv] :=
  Is.of e37 (Evt.all fun n => by have := neT hc; simp [F37, St.pv, this])
theorem deadP (s : St) (hc : s.c ≠ 0) (c l : PV) : Rn 40 [s.pv, c, l] [wZero, s.pv] :=
  Is.of e40 (Evt.all fun n => by have := neT hc; simp [F40, St.pv, this])
theorem St.ok_c {s : St} (h : s.ok) {x : Int} (hx : x = 1 ∨ x = 2) : (St.mk s.f x s.o).ok := ⟨h.1, h.2.1, h.2.2.1, h.2.2.2.1, Or.inr hx⟩
/-- Both are stuck. -/
theorem Res.stuck {s : St} (h : s.ok) {x : Int} (hx : x = 1 ∨ x = 2) (v v' : PV) : Res s (St.mk s.f x s.o) v v' :=
  ⟨St.ok_c h hx, Int.le_refl _, Nat.le_refl _, fun hc => by have hc : x = 0 := hc; omega⟩
theorem Res.trans {s s' s'' : St} {a a' v v' : PV} (h : Res s s' a a') (g : Res s' s'' v v') : Res s s'' v v' :=
  ⟨g.1, Int.le_trans g.2.1 h.2.1, Nat.le_trans g.2.2.1 h.2.2.1, g.2.2.2⟩
theorem bindS {es : List PV} (nm : ByteArray) (v : PV) (h : es.length ≤ 1048576) : Rn 38 [.list es, .str nm, v] [.list (es ++ [.agg [.str nm, v]])] := by
  refine Is.of e38 (Evt.all fun k => ?_)
  simp (disch := omega) only [F38, nth_0, nth_1, nth_2, toList_list, List.nil_append, List.length_nil, List.length_append, List.length_cons, leNT, iff_true']
theorem kidI {S S' v e : PV} {op n : Int} {s t : ByteArray} {ks : List Co} (i : Int) (j : Nat) (k : Co) (hij : i = j) (hj : j < ks.length) (hn : nth (Co.pvs ks) j = k.pv) (h : Rn 21 [S, k.pv, e] [v, S']) :
    Rn 45 [S, (Co.mk op n s t ks).pv, .int i, e] [v, S'] := by
  subst hij
  refine Is.of e45 (h.mp fun m q => ?_)
  simp (disch := omega) only [F45, Co.pv, nth_0, nth_1, nth_2, nth_3, nth_4, toInt_int, fld_agg, toList_list, Co.pvs_len, ltT, geT, iff_true', Int.toNat_natCast, hn, q, Option.bind_some]
/-! ### Kids, one after the other -/
def VRs : List PV → List PV → Prop
  | [], [] => True
  | a :: l, b :: m => VR a b ∧ VRs l m
  | _, _ => False
def LI (S C e : PV) (ks : List Co) (i len : Nat) (acc : List PV) (r : Ex × List PV) : Prop := Evt fun k => ∀ m, ks.length + 1 ≤ m → loopEv (L21_1 (ev Try.prog sg k) k) m [.int i, .int len, e, .list acc, S, C] = some r
def LS (S C : PV) (es : List PV) (ks : List Co) (i : Nat) (acc : List PV) (r : Ex × List PV) : Prop := Evt fun k => ∀ m, ks.length + 1 ≤ m → loopEv (L36_0 (ev Try.prog sg k) k) m [.int i, .list es, .list acc, S, C] = some r
section
variable {op n : Int} {sn t : ByteArray} {e : PV} {es : List PV}
theorem stepS {S S' v' : PV} {ks pre : List Co} {c : Co} {acc : List PV} (hl : (pre ++ c :: ks).length ≤ 10) (ha : acc.length = pre.length) (h : Rn 16 [S, c.pv, .list es] [v', S']) :
    Evt fun k => L36_0 (ev Try.prog sg k) k [.int (pre.length : Nat), .list es, .list acc, S, (Co.mk op n sn t (pre ++ c :: ks)).pv] = some (.n, [.int ((pre ++ [c]).length : Nat), .list es, .list (acc ++ [v']), S', (Co.mk op n sn t (pre ++ c :: ks)).pv]) := by
  have hcl : (pre ++ c :: ks).length = pre.length + 1 + ks.length := by simp; omega
  rw [hcl] at hl
  refine h.mp fun k q => ?_
  simp (disch := omega) only [L36_0, Co.pv, nth_0, nth_1, nth_2, nth_3, nth_4, toInt_int, fld_agg, toList_list, Co.pvs_len, hcl, ltT, geT, iff_true', Int.toNat_natCast, nth_pvs, q, Option.bind_some, leNT, List.length_cons, List.length_nil, wrap64]
  simp
theorem endS {S : PV} {pre : List Co} {acc : List PV} : LS S (Co.mk op n sn t pre).pv es [] pre.length acc (.x 0, [S, .list acc]) := by
  refine Evt.all fun k m hm => ?_
  obtain ⟨m, rfl⟩ : ∃ m', m = m' + 1 := ⟨m - 1, by omega⟩
  simp (disch := omega) [loopEv, L36_0, Co.pv, Co.pvs_len, ltF]
theorem nextS {S S' v' : PV} {ks pre : List Co} {c : Co} {acc : List PV} {r : Ex × List PV} (hl : (pre ++ c :: ks).length ≤ 10) (ha : acc.length = pre.length) (h : Rn 16 [S, c.pv, .list es] [v', S'])
    (g : LS S' (Co.mk op n sn t ((pre ++ [c]) ++ ks)).pv es ks (pre ++ [c]).length (acc ++ [v']) r) : LS S (Co.mk op n sn t (pre ++ c :: ks)).pv es (c :: ks) pre.length acc r := by
  refine (stepS (op := op) (n := n) (sn := sn) (t := t) hl ha h).mp2 g fun k q1 q2 m hm => ?_
  obtain ⟨m, rfl⟩ : ∃ m', m = m' + 1 := ⟨m - 1, by omega⟩
  have q2 := q2 m (by simpa using hm)
  simp only [loopEv, q1, thenN_n]
  have e1 : (pre ++ [c]) ++ ks = pre ++ c :: ks := by simp
  rw [e1] at q2
  exact q2
theorem deadL (s : St) (hc : s.c ≠ 0) : ∀ (ks pre : List Co) (acc : List PV), (pre ++ ks).length ≤ 10 → acc.length = pre.length →
    LS s.pv (Co.mk op n sn t (pre ++ ks)).pv es ks pre.length acc (.x 0, [s.pv, .list (acc ++ List.replicate ks.length wZero)])
  | [], pre, acc, hl, ha => by simpa using endS (es := es) (op := op) (n := n) (sn := sn) (t := t) (S := s.pv) (pre := pre) (acc := acc)
  | c :: ks, pre, acc, hl, ha => by
    have := deadL s hc ks (pre ++ [c]) (acc ++ [wZero]) (by simpa using hl) (by simp [ha])
    refine nextS hl ha (deadE s hc c.pv (.list es)) ?_
    simpa [List.replicate_succ] using this
theorem endI {S : PV} {pre : List Co} {acc : List PV} : LI S (Co.mk op n sn t pre).pv e [] pre.length pre.length acc (.x 3, [.list acc, S, (Co.mk op n sn t pre).pv]) := by
  refine Evt.all fun k m hm => ?_
  obtain ⟨m, rfl⟩ : ∃ m', m = m' + 1 := ⟨m - 1, by omega⟩
  simp (disch := omega) [loopEv, L21_1, ltF]
theorem stepI {S : PV} {s' : St} {v : PV} {ks pre : List Co} {c : Co} {acc : List PV} (hl : (pre ++ c :: ks).length ≤ 10) (ha : acc.length = pre.length) (h : Rn 21 [S, c.pv, e] [v, s'.pv]) :
    Evt fun k => L21_1 (ev Try.prog sg k) k [.int (pre.length : Nat), .int ((pre ++ c :: ks).length : Nat), e, .list acc, S, (Co.mk op n sn t (pre ++ c :: ks)).pv] = if neI s'.c 0 then some (.r, [s'.pv, v]) else some (.n, [.int ((pre ++ [c]).length : Nat), .int ((pre ++ c :: ks).length : Nat), e, .list (acc ++ [v]), s'.pv, (Co.mk op n sn t (pre ++ c :: ks)).pv]) := by
  have hcl : (pre ++ c :: ks).length = pre.length + 1 + ks.length := by simp; omega
  rw [hcl] at hl
  have hk := kidI (op := op) (n := n) (s := sn) (t := t) (ks := pre ++ c :: ks) (i := (pre.length : Int)) pre.length c rfl (by omega) (nth_pvs pre c ks) h
  have hn : nth (acc ++ [v]) pre.length = v := by rw [← ha]; exact nth_mid acc [] v
  refine hk.mp fun k q => ?_
  have hll : (acc ++ [v]).length = pre.length + 1 := by simp [ha]
  simp (disch := omega) only [L21_1, nth_0, nth_1, nth_2, nth_3, nth_4, nth_5, toInt_int, toList_list, hcl, ltT, geT, iff_true', Int.toNat_natCast, q, Option.bind_some, leNT, List.length_cons, List.length_nil, wrap64, hll, hn]
  simp only [St.pv, fld_agg, nth_1, toInt_int]
  cases neI s'.c 0
  · simp
  · simp (disch := omega) [ltT]
theorem kidsL {N : Nat} (IH : EvAt N) (he : ER e es) : ∀ (ks pre : List Co) (s : St) (acc acc' : List PV), s.c = 0 → s.f.toNat ≤ N → s.ok → Co.fits ks = true → es.length + 2 * Co.deeps ks ≤ 1000 → (pre ++ ks).length ≤ 10 → acc.length = pre.length → acc'.length = pre.length →
    (∃ (vs vs' : List PV) (s' : St), s'.c = 0 ∧ (s'.ok ∧ s'.f ≤ s.f ∧ s'.pot ≤ s.pot) ∧ VRs vs vs' ∧ vs.length = ks.length ∧
      LI s.pv (Co.mk op n sn t (pre ++ ks)).pv e ks pre.length (pre ++ ks).length acc (.x 3, [.list (acc ++ vs), s'.pv, (Co.mk op n sn t (pre ++ ks)).pv]) ∧ LS s.pv (Co.mk op n sn t (pre ++ ks)).pv es ks pre.length acc' (.x 0, [s'.pv, .list (acc' ++ vs')])) ∨
    (∃ (v : PV) (vs' : List PV) (s' : St), s'.c ≠ 0 ∧ (s'.ok ∧ s'.f ≤ s.f ∧ s'.pot ≤ s.pot) ∧ vs'.length = ks.length ∧
      LI s.pv (Co.mk op n sn t (pre ++ ks)).pv e ks pre.length (pre ++ ks).length acc (.r, [s'.pv, v]) ∧ LS s.pv (Co.mk op n sn t (pre ++ ks)).pv es ks pre.length acc' (.x 0, [s'.pv, .list (acc' ++ vs')]))
  | [], pre, s, acc, acc', hc, hf, hok, hfit, hd, hl, ha, ha' => by
    refine Or.inl ⟨[], [], s, hc, ⟨hok, Int.le_refl _, Nat.le_refl _⟩, trivial, rfl, ?_, ?_⟩
    · simpa using endI (S := s.pv) (pre := pre) (acc := acc) (e := e) (op := op) (n := n) (sn := sn) (t := t)
    · simpa using endS (S := s.pv) (pre := pre) (acc := acc') (es := es) (op := op) (n := n) (sn := sn) (t := t)
  | c :: ks, pre, s, acc, acc', hc, hf, hok, hfit, hd, hl, ha, ha' => by
    simp only [Co.fits, Bool.and_eq_true] at hfit
    simp only [Co.deeps] at hd
    obtain ⟨v, v', s1, r1, r2, k1, k2, k3, k4⟩ := IH s c e es hc hf hok hfit.1 he (by omega)
    have e1 : pre ++ c :: ks = (pre ++ [c]) ++ ks := by simp
    have hb := stepI (op := op) (n := n) (sn := sn) (t := t) (ks := ks) (pre := pre) hl ha r1
    by_cases hc1 : s1.c = 0
    · have hne : neI s1.c 0 = false := neF hc1
      rw [hne] at hb
      simp only [Bool.false_eq_true, if_false] at hb
      have lift : ∀ r, LI s1.pv (Co.mk op n sn t ((pre ++ [c]) ++ ks)).pv e ks (pre ++ [c]).length ((pre ++ [c]) ++ ks).length (acc ++ [v]) r → LI s.pv (Co.mk op n sn t (pre ++ c :: ks)).pv e (c :: ks) pre.length (pre ++ c :: ks).length acc r := by
        intro r g
        refine hb.mp2 g fun k q1 q2 m hm => ?_
        obtain ⟨m, rfl⟩ : ∃ m', m = m' + 1 := ⟨m - 1, by omega⟩
        have q2 := q2 m (by simpa using hm)
        simp only [loopEv, q1, thenN_n]
        rw [← e1] at q2
        exact q2
      rcases kidsL IH he ks (pre ++ [c]) s1 (acc ++ [v]) (acc' ++ [v']) hc1 (by omega) k1 hfit.2 (by omega) (by rw [← e1]; exact hl) (by simp [ha]) (by simp [ha']) with ⟨vs, vs', s2, g1, ⟨g2, g3, g4⟩, g5, g6, g7, g8⟩ | ⟨x, vs', s2, g1, ⟨g2, g3, g4⟩, g5, g6, g7⟩
      · refine Or.inl ⟨v :: vs, v' :: vs', s2, g1, ⟨g2, by omega, by omega⟩, ⟨k4 hc1, g5⟩, by simp [g6], ?_, ?_⟩
        · have := lift _ g7
          simpa using this
        · have := nextS hl ha' r2 g8
          simpa using this
      · refine Or.inr ⟨x, v' :: vs', s2, g1, ⟨g2, by omega, by omega⟩, by simp [g5], ?_, ?_⟩
        · have := lift _ g6
          simpa using this
        · have := nextS hl ha' r2 g7
          simpa using this
    · have hne : neI s1.c 0 = true := neT hc1
      rw [hne] at hb
      simp only [if_true] at hb
      have hd := deadL (es := es) (op := op) (n := n) (sn := sn) (t := t) s1 hc1 ks (pre ++ [c]) (acc' ++ [v']) (by rw [← e1]; exact hl) (by simp [ha'])
      refine Or.inr ⟨v, v' :: List.replicate ks.length wZero, s1, hc1, ⟨k1, k2, k3⟩, by simp, ?_, ?_⟩
      · refine hb.mp fun k q m hm => ?_
        obtain ⟨m, rfl⟩ : ∃ m', m = m' + 1 := ⟨m - 1, by omega⟩
        simp only [loopEv, q]
        rfl
      · have := nextS hl ha' r2 hd
        simpa using this
end
end Go.Proofs.Ytdkfgnnebaahaaa.GFnExactEval
