/- What functions of the program and of the reference come to, for the law FnExactEval. Each under the conditions that it names. -/
import Derived.Test.YtdkfgnnebaahaaaEFnExactEval
namespace Go.Proofs.Ytdkfgnnebaahaaa.GFnExactEval
open Go Go.Rsc Go.Proofs.Ytdkfgnnebaahaaa
set_option maxRecDepth 100000
set_option linter.unusedVariables false
set_option linter.unusedSimpArgs false
local notation "e0" => (⟨#[]⟩ : ByteArray)
local notation "zc" => PV.agg [PV.int 0, PV.int 0, PV.str (⟨#[]⟩ : ByteArray), PV.str (⟨#[]⟩ : ByteArray), PV.list []]
local notation "vNil" => PV.list [PV.agg [PV.int 2, PV.int 0, PV.list [], PV.list [], PV.str (⟨#[]⟩ : ByteArray), PV.agg [PV.int 0, PV.int 0, PV.str (⟨#[]⟩ : ByteArray), PV.str (⟨#[]⟩ : ByteArray), PV.list []], PV.list []]]
local notation "wZero" => PV.agg [PV.int 0, PV.int 0, PV.list [], PV.agg [PV.int 0, PV.int 0, PV.str (⟨#[]⟩ : ByteArray), PV.str (⟨#[]⟩ : ByteArray), PV.list []], PV.str (⟨#[]⟩ : ByteArray), PV.str (⟨#[]⟩ : ByteArray), PV.list []]
set_option maxHeartbeats 8000000
/-! ### One step of both -/
section
variable {s : St} {e : PV} {es : List PV} {op n : Int} {sn t : ByteArray} {ks : List Co}
theorem pv0 (hc : s.c = 0) : s.pv = .agg [.int s.f, .int 0, ints s.o] := by simp [St.pv, hc]
theorem noFuel (hc : s.c = 0) (hok : s.ok) (hf : s.f ≤ 0) (c : Co) : Ev2 s c e es := by
  have hS := pv0 hc
  have hl : leI s.f 0 = true := leT hf
  have ne0 : neI (0 : Int) 0 = false := rfl
  refine ⟨vNil, wZero, ⟨s.f, 1, s.o⟩, Is.of e21 ((failI s hc 1).mp fun k q => ?_), Is.of e16 (Evt.all fun k => ?_), Res.stuck hok (Or.inl rfl) _ _⟩
  · rw [hS] at q ⊢
    simp [F21, ne0, hl, q]
  · rw [hS]
    simp [F16, ne0, hl, St.pv]
/-- The state once a step is paid. -/
def paid (s : St) : St := ⟨s.f - 1, 0, s.o⟩
theorem paid_ok (hok : s.ok) (hf : 0 < s.f) : (paid s).ok := by
  obtain ⟨k1, k2, k3, k4, k5⟩ := hok
  refine ⟨by show s.f - 1 ≤ 4000; omega, by show _ ≤ s.f - 1; omega, ?_, k4, Or.inl rfl⟩
  unfold St.pot at k3 ⊢
  show s.o.length + (s.f - 1).toNat ≤ 4000
  omega
theorem paid_pot (hf : 0 < s.f) : (paid s).pot + 1 = s.pot := by
  unfold St.pot
  show s.o.length + (s.f - 1).toNat + 1 = s.o.length + s.f.toNat
  omega
theorem Res.paid {s' : St} {v v' : PV} (hf : 0 < s.f) (h : Res (paid s) s' v v') : Res s s' v v' := by
  obtain ⟨h1, h2, h3, h4⟩ := h
  have := paid_pot hf
  have h2 : s'.f ≤ s.f - 1 := h2
  exact ⟨h1, by omega, by omega, h4⟩
theorem pv_paid (s : St) : (paid s).pv = .agg [.int (s.f - 1), .int 0, ints s.o] := rfl
theorem fuelI (hc : s.c = 0) (hok : s.ok) (hf : 0 < s.f) : leI s.f 0 = false ∧ IntKind.i64.wrap (s.f - 1) = s.f - 1 := ⟨leF hf, by have := hok.1; have := hok.2.1; exact wrap64 (by omega) (by omega)⟩
theorem goBind {v S' : PV} (hc : s.c = 0) (hok : s.ok) (hf : 0 < s.f) (hop : op = 3 ∨ op = 5 ∨ op = 6) (h : Rn 44 [(paid s).pv, (Co.mk op n sn t ks).pv, e] [v, S']) : Rn 21 [s.pv, (Co.mk op n sn t ks).pv, e] [v, S'] := by
  obtain ⟨hl, hw⟩ := fuelI hc hok hf
  have ne0 : neI (0 : Int) 0 = false := rfl
  refine Is.of e21 (h.mp fun k q => ?_)
  rw [pv0 hc]
  rw [pv_paid] at q
  simp only [Co.pv] at q ⊢
  rcases hop with rfl | rfl | rfl <;> simp [F21, ne0, hl, hw, eqI, q]
theorem num1 (hc : s.c = 0) (hok : s.ok) (hf : 0 < s.f) (hn : in64 n) : Ev2 s (.mk 1 n sn t ks) e es := by
  obtain ⟨hl, hw⟩ := fuelI hc hok hf
  have ne0 : neI (0 : Int) 0 = false := rfl
  have hr : Res (paid s) (paid s) (vInt n) (wInt n) := ⟨paid_ok hok hf, Int.le_refl _, Nat.le_refl _, fun _ => VR.ofInt hn⟩
  refine ⟨vInt n, wInt n, paid s, Is.of e21 ((intI n).mp fun k q => ?_), Is.of e16 ((intS n).mp fun k q => ?_), hr.paid hf⟩
  · rw [pv0 hc, pv_paid]
    simp [F21, Co.pv, ne0, hl, hw, eqI, q]
  · rw [pv0 hc, pv_paid]
    simp [F16, Co.pv, ne0, hl, hw, eqI, q]
theorem kidsS {r : List PV} {s' : St} (hc : s.c = 0) (h : LS s.pv (Co.mk op n sn t ks).pv es ks 0 [] (.x 0, [s'.pv, .list r])) : Rn 36 [s.pv, (Co.mk op n sn t ks).pv, .list es] [.list r, s'.pv] := by
  refine Is.of e36 (h.mp2 (Evt.ge (ks.length + 1)) fun k q hk => ?_)
  have q := q k hk
  have q' : loopEv (L36_0 (ev Try.prog sg k) k) k [.int 0, .list es, .list [], s.pv, (Co.mk op n sn t ks).pv] = _ := q
  simp [F36, q']
theorem nil13 (hc : s.c = 0) (hok : s.ok) (hf : 0 < s.f) : Ev2 s (.mk 13 n sn t []) e es := by
  obtain ⟨hl, hw⟩ := fuelI hc hok hf
  have ne0 : neI (0 : Int) 0 = false := rfl
  have hr : Res (paid s) (paid s) vNil (.agg [.int 2, .int 0, .list [], zc, .str e0, .str e0, .list []]) := ⟨paid_ok hok hf, Int.le_refl _, Nat.le_refl _, fun _ => VR.nil⟩
  have h36 : Rn 36 [(paid s).pv, (Co.mk 13 n sn t []).pv, .list es] [.list [], (paid s).pv] := kidsS (ks := []) rfl (endS (pre := []))
  have h40 : Rn 40 [(paid s).pv, (Co.mk 13 n sn t []).pv, .list []] [.agg [.int 2, .int 0, .list [], zc, .str e0, .str e0, .list []], (paid s).pv] := Is.of e40 (Evt.all fun k => by simp [F40, pv_paid, Co.pv, ne0, eqI])
  refine ⟨_, _, paid s, Is.of e21 (Evt.all fun k => ?_), Is.of e16 (h36.mp2 h40 fun k q1 q2 => ?_), hr.paid hf⟩
  · rw [pv0 hc, pv_paid]
    simp [F21, Co.pv, ne0, hl, hw, eqI]
  · rw [pv0 hc]
    rw [pv_paid] at q1 q2 ⊢
    simp only [Co.pv] at q1 q2 ⊢
    simp [F16, ne0, hl, hw, eqI, q1, q2]
theorem var2 (hc : s.c = 0) (hok : s.ok) (hf : 0 < s.f) (he : ER e es) (hlen : es.length ≤ 1000) : Ev2 s (.mk 2 n sn t ks) e es := by
  obtain ⟨hl, hw⟩ := fuelI hc hok hf
  have ne0 : neI (0 : Int) 0 = false := rfl
  have hwl : IntKind.i64.wrap ((es.length : Int) - 1) = es.length - 1 := wrap64 (by omega) (by omega)
  rcases look (nm := sn) es.length e es rfl hlen he with ⟨v, v', hv, h1, h2⟩ | ⟨h1, h2⟩
  · have h1 := h1 (Co.mk 2 n sn t ks).pv (paid s).pv rfl
    have h2 := h2 [] (paid s).pv wZero (by simp; omega)
    have h35 : Rn 8227 [(paid s).pv, .list es, .str sn] [v', (paid s).pv] := by
      refine Is.of e8227 (h2.mp2 (Evt.ge (es.length + 1)) fun k q hk => ?_)
      have q := q k hk
      rw [List.append_nil] at q
      simp [F8227, hwl, q]
    have hr : Res (paid s) (paid s) v v' := ⟨paid_ok hok hf, Int.le_refl _, Nat.le_refl _, fun _ => hv⟩
    refine ⟨v, v', paid s, Is.of e21 (h1.mp2 (Evt.ge (es.length + 1)) fun k q hk => ?_), Is.of e16 (h35.mp fun k q => ?_), hr.paid hf⟩
    · have q := q k hk
      rw [pv0 hc]
      rw [pv_paid] at q ⊢
      simp only [Co.pv] at q ⊢
      simp [F21, ne0, hl, hw, eqI, q]
    · rw [pv0 hc]
      rw [pv_paid] at q ⊢
      simp only [Co.pv]
      simp [F16, ne0, hl, hw, eqI, q]
  · have h1 := h1 (Co.mk 2 n sn t ks).pv (paid s).pv rfl
    have h2 := h2 [] (paid s).pv wZero (by simp; omega)
    have h35 : Rn 8227 [(paid s).pv, .list es, .str sn] [wZero, (St.mk (paid s).f 2 (paid s).o).pv] := by
      refine Is.of e8227 ((h2.and (Evt.ge (es.length + 1))).mp2 (stuckS (paid s) rfl) fun k q1 qs => ?_)
      obtain ⟨q, hk⟩ := q1
      have q := q k hk
      rw [List.append_nil] at q
      simp [F8227, hwl, q, qs]
    have hr : Res (paid s) (St.mk (paid s).f 2 (paid s).o) vNil wZero := Res.stuck (paid_ok hok hf) (Or.inr rfl) _ _
    refine ⟨vNil, wZero, _, Is.of e21 ((h1.and (Evt.ge (es.length + 1))).mp2 (failI (paid s) rfl 2) fun k q1 qs => ?_), Is.of e16 (h35.mp fun k q => ?_), hr.paid hf⟩
    · obtain ⟨q, hk⟩ := q1
      have q := q k hk
      rw [pv0 hc]
      rw [pv_paid] at q qs
      simp only [Co.pv] at q ⊢
      simp [F21, ne0, hl, hw, eqI, q, qs]
    · rw [pv0 hc]
      rw [pv_paid] at q
      simp only [Co.pv]
      simp [F16, ne0, hl, hw, eqI, q]
theorem fun3 (hc : s.c = 0) (hok : s.ok) (hf : 0 < s.f) (he : ER e es) {c : Co} (hfit : c.fit = true) (hd : es.length + 1 + 2 * c.deep ≤ 1000) : Ev2 s (.mk 3 n sn t [c]) e es := by
  obtain ⟨hl, hw⟩ := fuelI hc hok hf
  have ne0 : neI (0 : Int) 0 = false := rfl
  have hr : Res (paid s) (paid s) (.list [.agg [.int 4, .int 0, .list [], .list [], .str sn, c.pv, e]]) (.agg [.int 4, .int 0, .list [], c.pv, .str sn, .str e0, .list es]) := ⟨paid_ok hok hf, Int.le_refl _, Nat.le_refl _, fun _ => VR.clo sn c hfit hd he⟩
  refine ⟨_, _, paid s, goBind hc hok hf (Or.inl rfl) (Is.of e44 (Evt.all fun k => ?_)), Is.of e16 (Evt.all fun k => ?_), hr.paid hf⟩
  · simp [F44, Co.pv, Co.pvs, eqI, geI, ltI]
  · rw [pv0 hc, pv_paid]
    simp [F16, Co.pv, Co.pvs, ne0, hl, hw, eqI, geI, ltI]
end
section
variable {s : St} {e : PV} {es : List PV} {op n : Int} {sn t : ByteArray} {ks : List Co} {N : Nat}
theorem pv_c (s : St) : s.pv.fld 1 = .int s.c := rfl
theorem paid_le (hf : 0 < s.f) (hN : s.f.toNat ≤ N + 1) : (paid s).f.toNat ≤ N := by show (s.f - 1).toNat ≤ N; omega
theorem Res.bad {s' : St} {a a' v v' : PV} (h : Res s s' a a') (hc : s'.c ≠ 0) : Res s s' v v' := ⟨h.1, h.2.1, h.2.2.1, fun h => absurd h hc⟩
theorem let5 (IH : EvAt N) (hc : s.c = 0) (hok : s.ok) (hf : 0 < s.f) (hN : s.f.toNat ≤ N + 1) (he : ER e es) {c0 c1 : Co} (h0 : c0.fit = true) (h1 : c1.fit = true) (d0 : es.length + 2 * c0.deep ≤ 1000) (d1 : es.length + 1 + 2 * c1.deep ≤ 1000) : Ev2 s (.mk 5 n sn t [c0, c1]) e es := by
  obtain ⟨hl, hw⟩ := fuelI hc hok hf
  have ne0 : neI (0 : Int) 0 = false := rfl
  obtain ⟨v0, v0', s2, r1, r2, r3⟩ := IH (paid s) c0 e es rfl (paid_le hf hN) (paid_ok hok hf) h0 he d0
  have hk0 := kidI (op := 5) (n := n) (s := sn) (t := t) (ks := [c0, c1]) 0 0 c0 rfl (by simp) rfl r1
  have hb := bindS (es := es) sn v0' (by omega)
  by_cases hc2 : s2.c = 0
  · obtain ⟨v1, v1', s3, g1, g2, g3⟩ := IH s2 c1 _ _ hc2 (by have := r3.2.1; have := paid_le hf hN; omega) r3.1 h1 (ER.val sn (r3.2.2.2 hc2) he) (by simp only [List.length_append, List.length_cons, List.length_nil]; omega)
    have hk1 := kidI (op := 5) (n := n) (s := sn) (t := t) (ks := [c0, c1]) 1 1 c1 rfl (by simp) rfl g1
    have nc : neI s2.c 0 = false := neF hc2
    refine ⟨v1, v1', s3, goBind hc hok hf (Or.inr (Or.inl rfl)) (Is.of e44 (hk0.mp2 hk1 fun k q1 q2 => ?_)), Is.of e16 (r2.mp3 hb g2 fun k q1 q2 q3 => ?_), (r3.trans g3).paid hf⟩
    · simp only [Co.pv] at q1 q2 ⊢
      simp [F44, eqI, q1, q2, pv_c, nc]
    · rw [pv0 hc]
      rw [pv_paid] at q1
      simp only [Co.pv]
      simp [F16, Co.pvs, ne0, hl, hw, eqI, geI, ltI, q1, q2, q3]
  · have nc : neI s2.c 0 = true := neT hc2
    refine ⟨v0, wZero, s2, goBind hc hok hf (Or.inr (Or.inl rfl)) (Is.of e44 (hk0.mp fun k q1 => ?_)), Is.of e16 (r2.mp3 hb (deadE s2 hc2 c1.pv (.list (es ++ [.agg [.str sn, v0']]))) fun k q1 q2 q3 => ?_), (r3.paid hf).bad hc2⟩
    · simp only [Co.pv] at q1 ⊢
      simp [F44, eqI, q1, pv_c, nc]
    · rw [pv0 hc]
      rw [pv_paid] at q1
      simp only [Co.pv]
      simp [F16, Co.pvs, ne0, hl, hw, eqI, geI, ltI, q1, q2, q3]
theorem rec6 (IH : EvAt N) (hc : s.c = 0) (hok : s.ok) (hf : 0 < s.f) (hN : s.f.toNat ≤ N + 1) (he : ER e es) {c0 c1 : Co} (h0 : c0.fit = true) (h1 : c1.fit = true) (hs : eqS sn ⟨#[]⟩ = false) (d0 : es.length + 2 + 2 * c0.deep ≤ 1000) (d1 : es.length + 1 + 2 * c1.deep ≤ 1000) : Ev2 s (.mk 6 n sn t [c0, c1]) e es := by
  obtain ⟨hl, hw⟩ := fuelI hc hok hf
  have ne0 : neI (0 : Int) 0 = false := rfl
  obtain ⟨v1, v1', s3, g1, g2, g3⟩ := IH (paid s) c1 _ _ rfl (paid_le hf hN) (paid_ok hok hf) h1 (ER.recf sn t c0 h0 hs d0 he) (by simp only [List.length_append, List.length_cons, List.length_nil]; omega)
  have hk1 := kidI (op := 6) (n := n) (s := sn) (t := t) (ks := [c0, c1]) 1 1 c1 rfl (by simp) rfl g1
  have hb := bindS (es := es) sn (.agg [.int 4, .int 0, .list [], c0.pv, .str t, .str sn, .list es]) (by omega)
  refine ⟨v1, v1', s3, goBind hc hok hf (Or.inr (Or.inr rfl)) (Is.of e44 (hk1.mp fun k q1 => ?_)), Is.of e16 (hb.mp2 g2 fun k q1 q2 => ?_), g3.paid hf⟩
  · simp only [Co.pv, Co.pvs] at q1 ⊢
    simp [F44, eqI, geI, ltI, gtI, q1]
  · rw [pv0 hc]
    rw [pv_paid] at q2
    simp only [Co.pv]
    simp [F16, Co.pvs, ne0, hl, hw, eqI, geI, ltI, q1, q2]
theorem goKids {v S' : PV} {s2 : St} {vs : List PV} (hc : s.c = 0) (hok : s.ok) (hf : 0 < s.f) (hop : op = 4 ∨ (8 ≤ op ∧ op ≤ 12) ∨ (14 ≤ op ∧ op ≤ 18)) (h : LI (paid s).pv (Co.mk op n sn t ks).pv e ks 0 ks.length [] (.x 3, [.list vs, s2.pv, (Co.mk op n sn t ks).pv])) (g : Rn 46 [s2.pv, (Co.mk op n sn t ks).pv, .list vs] [v, S']) : Rn 21 [s.pv, (Co.mk op n sn t ks).pv, e] [v, S'] := by
  obtain ⟨hl, hw⟩ := fuelI hc hok hf
  have ne0 : neI (0 : Int) 0 = false := rfl
  have o1 : eqI op 1 = false := eqF (by omega)
  have o2 : eqI op 2 = false := eqF (by omega)
  have o3 : eqI op 3 = false := eqF (by omega)
  have o5 : eqI op 5 = false := eqF (by omega)
  have o6 : eqI op 6 = false := eqF (by omega)
  have o7 : eqI op 7 = false := eqF (by omega)
  have o13 : eqI op 13 = false := eqF (by omega)
  refine Is.of e21 ((h.and (Evt.ge (ks.length + 1))).mp2 g fun k q qg => ?_)
  obtain ⟨q, hk⟩ := q
  have q := q k hk
  have q' : loopEv (L21_1 (ev Try.prog sg k) k) k [.int 0, .int ks.length, e, .list [], (paid s).pv, (Co.mk op n sn t ks).pv] = _ := q
  rw [pv0 hc]
  rw [pv_paid] at q'
  simp only [Co.pv] at q' qg ⊢
  simp [F21, ne0, hl, hw, o1, o2, o3, o5, o6, o7, o13, Co.pvs_len, q', qg]
theorem goKidsF {v : PV} {s2 : St} (hc : s.c = 0) (hok : s.ok) (hf : 0 < s.f) (hop : op = 4 ∨ (8 ≤ op ∧ op ≤ 12) ∨ (14 ≤ op ∧ op ≤ 18)) (h : LI (paid s).pv (Co.mk op n sn t ks).pv e ks 0 ks.length [] (.r, [s2.pv, v])) : Rn 21 [s.pv, (Co.mk op n sn t ks).pv, e] [v, s2.pv] := by
  obtain ⟨hl, hw⟩ := fuelI hc hok hf
  have ne0 : neI (0 : Int) 0 = false := rfl
  have o1 : eqI op 1 = false := eqF (by omega)
  have o2 : eqI op 2 = false := eqF (by omega)
  have o3 : eqI op 3 = false := eqF (by omega)
  have o5 : eqI op 5 = false := eqF (by omega)
  have o6 : eqI op 6 = false := eqF (by omega)
  have o7 : eqI op 7 = false := eqF (by omega)
  have o13 : eqI op 13 = false := eqF (by omega)
  refine Is.of e21 (h.mp2 (Evt.ge (ks.length + 1)) fun k q hk => ?_)
  have q := q k hk
  have q' : loopEv (L21_1 (ev Try.prog sg k) k) k [.int 0, .int ks.length, e, .list [], (paid s).pv, (Co.mk op n sn t ks).pv] = _ := q
  rw [pv0 hc]
  rw [pv_paid] at q'
  simp only [Co.pv] at q' ⊢
  simp [F21, ne0, hl, hw, o1, o2, o3, o5, o6, o7, o13, Co.pvs_len, q']
theorem goPlain {v' S' S2 L : PV} (hc : s.c = 0) (hok : s.ok) (hf : 0 < s.f) (hop : (8 ≤ op ∧ op ≤ 12) ∨ (14 ≤ op ∧ op ≤ 18)) (h : Rn 36 [(paid s).pv, (Co.mk op n sn t ks).pv, .list es] [L, S2]) (g : Rn 40 [S2, (Co.mk op n sn t ks).pv, L] [v', S']) : Rn 16 [s.pv, (Co.mk op n sn t ks).pv, .list es] [v', S'] := by
  obtain ⟨hl, hw⟩ := fuelI hc hok hf
  have ne0 : neI (0 : Int) 0 = false := rfl
  have o1 : eqI op 1 = false := eqF (by omega)
  have o2 : eqI op 2 = false := eqF (by omega)
  have o3 : eqI op 3 = false := eqF (by omega)
  have o4 : eqI op 4 = false := eqF (by omega)
  have o5 : eqI op 5 = false := eqF (by omega)
  have o6 : eqI op 6 = false := eqF (by omega)
  have o7 : eqI op 7 = false := eqF (by omega)
  refine Is.of e16 (h.mp2 g fun k q qg => ?_)
  rw [pv0 hc]
  rw [pv_paid] at q
  simp only [Co.pv] at q qg ⊢
  simp [F16, ne0, hl, hw, o1, o2, o3, o4, o5, o6, o7, q, qg]
theorem goCall {v' S' S2 : PV} {L : List PV} (hc : s.c = 0) (hok : s.ok) (hf : 0 < s.f) (hL : L.length = 2) (h : Rn 36 [(paid s).pv, (Co.mk 4 n sn t ks).pv, .list es] [.list L, S2]) (g : Rn 37 [S2, nth L 0, nth L 1] [v', S']) : Rn 16 [s.pv, (Co.mk 4 n sn t ks).pv, .list es] [v', S'] := by
  obtain ⟨hl, hw⟩ := fuelI hc hok hf
  have ne0 : neI (0 : Int) 0 = false := rfl
  refine Is.of e16 (h.mp2 g fun k q qg => ?_)
  rw [pv0 hc]
  rw [pv_paid] at q
  simp only [Co.pv] at q qg ⊢
  simp [F16, ne0, hl, hw, eqI, geI, ltI, hL, q, qg]
theorem kids2 (IH : EvAt N) (hc : s.c = 0) (hok : s.ok) (hf : 0 < s.f) (hN : s.f.toNat ≤ N + 1) (he : ER e es) (hfit : Co.fits ks = true) (hd : es.length + 2 * Co.deeps ks ≤ 1000) (hl : ks.length ≤ 10) :
    (∃ (vs vs' : List PV) (s' : St), s'.c = 0 ∧ (s'.ok ∧ s'.f ≤ (paid s).f ∧ s'.pot ≤ (paid s).pot) ∧ VRs vs vs' ∧ vs.length = ks.length ∧
      LI (paid s).pv (Co.mk op n sn t ks).pv e ks 0 ks.length [] (.x 3, [.list vs, s'.pv, (Co.mk op n sn t ks).pv]) ∧ Rn 36 [(paid s).pv, (Co.mk op n sn t ks).pv, .list es] [.list vs', s'.pv]) ∨
    (∃ (v : PV) (vs' : List PV) (s' : St), s'.c ≠ 0 ∧ (s'.ok ∧ s'.f ≤ (paid s).f ∧ s'.pot ≤ (paid s).pot) ∧ vs'.length = ks.length ∧
      LI (paid s).pv (Co.mk op n sn t ks).pv e ks 0 ks.length [] (.r, [s'.pv, v]) ∧ Rn 36 [(paid s).pv, (Co.mk op n sn t ks).pv, .list es] [.list vs', s'.pv]) := by
  rcases kidsL (op := op) (n := n) (sn := sn) (t := t) IH he ks [] (paid s) [] [] rfl (paid_le hf hN) (paid_ok hok hf) hfit hd (by simpa using hl) rfl rfl with ⟨vs, vs', s', g1, g2, g3, g4, g5, g6⟩ | ⟨v, vs', s', g1, g2, g3, g4, g5⟩
  · exact Or.inl ⟨vs, vs', s', g1, g2, g3, g4, g5, kidsS rfl g6⟩
  · exact Or.inr ⟨v, vs', s', g1, g2, g3, g4, kidsS rfl g5⟩
theorem plain8 (IH : EvAt N) (hc : s.c = 0) (hok : s.ok) (hf : 0 < s.f) (hN : s.f.toNat ≤ N + 1) (he : ER e es) (hop : (8 ≤ op ∧ op ≤ 12) ∨ (14 ≤ op ∧ op ≤ 18)) (hfit : Co.fits ks = true) (hd : es.length + 2 * Co.deeps ks ≤ 1000) (hl : ks.length ≤ 10)
    (hP : ∀ (s2 : St) (vs vs' : List PV), s2.c = 0 → s2.ok → s2.pot ≤ 3999 → VRs vs vs' → vs.length = ks.length → Pl s2 (Co.mk op n sn t ks).pv vs vs') : Ev2 s (.mk op n sn t ks) e es := by
  have hpp := paid_pot hf
  have hp4 := hok.2.2.1
  have hpf : (paid s).f = s.f - 1 := rfl
  rcases kids2 (op := op) (n := n) (sn := sn) (t := t) IH hc hok hf hN he hfit hd hl with ⟨vs, vs', s2, g1, ⟨g2, g3, g4⟩, g5, g6, g7, g8⟩ | ⟨v, vs', s2, g1, ⟨g2, g3, g4⟩, g5, g6, g7⟩
  · obtain ⟨v, v', s', p1, p2, p3, p4, p5, p6⟩ := hP s2 vs vs' g1 g2 (by omega) g5 g6
    exact ⟨v, v', s', goKids hc hok hf (Or.inr hop) g7 p1, goPlain hc hok hf hop g8 p2, p3, by omega, by omega, p6⟩
  · exact ⟨v, wZero, s2, goKidsF hc hok hf (Or.inr hop) g6, goPlain hc hok hf hop g7 (deadP s2 g1 _ _), g2, by omega, by omega, fun h => absurd h g1⟩
theorem app4 (IH : EvAt N) (hc : s.c = 0) (hok : s.ok) (hf : 0 < s.f) (hN : s.f.toNat ≤ N + 1) (he : ER e es) (hfit : Co.fits ks = true) (hd : es.length + 2 * Co.deeps ks ≤ 1000) (hl : ks.length = 2) : Ev2 s (.mk 4 n sn t ks) e es := by
  have hpp := paid_pot hf
  have hpf : (paid s).f = s.f - 1 := rfl
  have hpN := paid_le hf hN
  rcases kids2 (op := 4) (n := n) (sn := sn) (t := t) IH hc hok hf hN he hfit hd (by omega) with ⟨vs, vs', s2, g1, ⟨g2, g3, g4⟩, g5, g6, g7, g8⟩ | ⟨v, vs', s2, g1, ⟨g2, g3, g4⟩, g5, g6, g7⟩
  · obtain ⟨a, b, a', b', rfl, rfl, ha, hb⟩ := g5.two (by omega)
    obtain ⟨v, v', s', p1, p2, p3⟩ := app (C := (Co.mk 4 n sn t ks).pv) IH (by omega) g1 g2 rfl ha hb
    obtain ⟨p3, p4, p5, p6⟩ := p3
    exact ⟨v, v', s', goKids hc hok hf (Or.inl rfl) g7 p1, goCall hc hok hf rfl g8 p2, p3, by omega, by omega, p6⟩
  · exact ⟨v, wZero, s2, goKidsF hc hok hf (Or.inl rfl) g6, goCall hc hok hf (by omega) g7 (deadC s2 g1 _ _), g2, by omega, by omega, fun h => absurd h g1⟩
end
section
variable {s : St} {e : PV} {es : List PV} {op n : Int} {sn t : ByteArray} {ks : List Co} {N : Nat}
theorem if7 (IH : EvAt N) (hc : s.c = 0) (hok : s.ok) (hf : 0 < s.f) (hN : s.f.toNat ≤ N + 1) (he : ER e es) {c0 c1 c2 : Co} (h0 : c0.fit = true) (h1 : c1.fit = true) (h2 : c2.fit = true) (d0 : es.length + 2 * c0.deep ≤ 1000) (d1 : es.length + 2 * c1.deep ≤ 1000) (d2 : es.length + 2 * c2.deep ≤ 1000) : Ev2 s (.mk 7 n sn t [c0, c1, c2]) e es := by
  obtain ⟨hl, hw⟩ := fuelI hc hok hf
  have ne0 : neI (0 : Int) 0 = false := rfl
  obtain ⟨v0, v0', s2, r1, r2, r3⟩ := IH (paid s) c0 e es rfl (paid_le hf hN) (paid_ok hok hf) h0 he d0
  have hk0 := kidI (op := 7) (n := n) (s := sn) (t := t) (ks := [c0, c1, c2]) 0 0 c0 rfl (by simp) rfl r1
  by_cases hc2 : s2.c = 0
  · have nc : neI s2.c 0 = false := neF hc2
    have ec : eqI s2.c 0 = true := eqT hc2
    obtain ⟨k0, m, p, q, r, bd, env, kk, bd', ar, sf, en, ea, eb, hk⟩ := (r3.2.2.2 hc2).shape
    have w1 : gtI (v0.toList.length : Int) 0 = true := by rw [ea]; rfl
    have w2 : ((nth v0.toList 0).fld 0).toInt = k0 := by rw [ea]; rfl
    have w3 : ((nth v0.toList 0).fld 1).toInt = m := by rw [ea]; rfl
    have w4 : (v0'.fld 0).toInt = k0 := by rw [eb]; rfl
    have w5 : (v0'.fld 1).toInt = m := by rw [eb]; rfl
    by_cases hk1 : k0 = 1
    · have n1 : neI k0 1 = false := neF hk1
      by_cases hm : m = 0
      · have m1 : eqI m 0 = true := eqT hm
        have m2 : neI m 0 = false := neF hm
        obtain ⟨v1, v1', s3, g1, g2, g3⟩ := IH s2 c2 e es hc2 (by have := r3.2.1; have := paid_le hf hN; omega) r3.1 h2 he d2
        have hk1 := kidI (op := 7) (n := n) (s := sn) (t := t) (ks := [c0, c1, c2]) 2 2 c2 rfl (by simp) rfl g1
        refine ⟨v1, v1', s3, Is.of e21 (hk0.mp2 hk1 fun k q1 q2 => ?_), Is.of e16 (r2.mp2 g2 fun k q1 q2 => ?_), (r3.trans g3).paid hf⟩
        · rw [pv0 hc]
          rw [pv_paid] at q1
          simp only [Co.pv] at q1 q2 ⊢
          simp [F21, ne0, hl, hw, eqI, q1, q2, pv_c, nc, w1, w2, w3, n1, show (m == 0) = true from m1]
        · rw [pv0 hc]
          rw [pv_paid] at q1
          simp only [Co.pv]
          simp [F16, Co.pvs, ne0, hl, hw, eqI, geI, ltI, q1, q2, pv_c, show (s2.c == 0) = true from ec, w4, w5, n1, m2]
      · have m1 : eqI m 0 = false := eqF hm
        have m2 : neI m 0 = true := neT hm
        obtain ⟨v1, v1', s3, g1, g2, g3⟩ := IH s2 c1 e es hc2 (by have := r3.2.1; have := paid_le hf hN; omega) r3.1 h1 he d1
        have hk1 := kidI (op := 7) (n := n) (s := sn) (t := t) (ks := [c0, c1, c2]) 1 1 c1 rfl (by simp) rfl g1
        refine ⟨v1, v1', s3, Is.of e21 (hk0.mp2 hk1 fun k q1 q2 => ?_), Is.of e16 (r2.mp2 g2 fun k q1 q2 => ?_), (r3.trans g3).paid hf⟩
        · rw [pv0 hc]
          rw [pv_paid] at q1
          simp only [Co.pv] at q1 q2 ⊢
          simp [F21, ne0, hl, hw, eqI, q1, q2, pv_c, nc, w1, w2, w3, n1, show (m == 0) = false from m1]
        · rw [pv0 hc]
          rw [pv_paid] at q1
          simp only [Co.pv]
          simp [F16, Co.pvs, ne0, hl, hw, eqI, geI, ltI, q1, q2, pv_c, show (s2.c == 0) = true from ec, w4, w5, n1, m2]
    · have n1 : neI k0 1 = true := neT hk1
      have hr : Res s2 (St.mk s2.f 2 s2.o) vNil wZero := Res.stuck r3.1 (Or.inr rfl) _ _
      refine ⟨vNil, wZero, _, Is.of e21 (hk0.mp2 (failI s2 hc2 2) fun k q1 q2 => ?_), Is.of e16 (r2.mp2 (stuckS s2 hc2) fun k q1 q2 => ?_), (r3.trans hr).paid hf⟩
      · rw [pv0 hc]
        rw [pv_paid] at q1
        simp only [Co.pv] at q1 ⊢
        simp [F21, ne0, hl, hw, eqI, q1, q2, pv_c, nc, w1, w2, n1]
      · rw [pv0 hc]
        rw [pv_paid] at q1
        simp only [Co.pv]
        simp [F16, Co.pvs, ne0, hl, hw, eqI, geI, ltI, q1, q2, pv_c, show (s2.c == 0) = true from ec, w4, n1]
  · have nc : neI s2.c 0 = true := neT hc2
    have ec : eqI s2.c 0 = false := eqF hc2
    refine ⟨v0, wZero, s2, Is.of e21 (hk0.mp fun k q1 => ?_), Is.of e16 (r2.mp3 (deadE s2 hc2 c1.pv (.list es)) (deadE s2 hc2 c2.pv (.list es)) fun k q1 q2 q3 => ?_), (r3.paid hf).bad hc2⟩
    · rw [pv0 hc]
      rw [pv_paid] at q1
      simp only [Co.pv] at q1 ⊢
      simp [F21, ne0, hl, hw, eqI, q1, pv_c, nc]
    · rw [pv0 hc]
      rw [pv_paid] at q1
      simp only [Co.pv]
      cases hz : neI (v0'.fld 1).toInt 0 <;> simp [F16, Co.pvs, ne0, hl, hw, eqI, geI, ltI, q1, q2, q3, pv_c, show (s2.c == 0) = false from ec, hz]
theorem evStep (IH : EvAt N) (hc : s.c = 0) (hok : s.ok) (hf : 0 < s.f) (hN : s.f.toNat ≤ N + 1) (he : ER e es) (c : Co) (hfit : c.fit = true) (hd : es.length + 2 * c.deep ≤ 1000) : Ev2 s c e es := by
  obtain ⟨op, n, sn, t, ks⟩ := c
  simp only [Co.fit, Bool.and_eq_true, decide_eq_true_eq] at hfit
  obtain ⟨hop, har, h6, hw, hks⟩ := hfit
  have har : arC op = ks.length := by simpa [eqI] using har
  have hn : in64 n := by
    have : -1073741824 ≤ n ∧ n ≤ 1073741823 := by simpa [okW] using hw
    unfold in64; omega
  simp only [Co.deep] at hd
  have h1 : ∀ {l : List Co}, l.length = 1 → ∃ a, l = [a] := fun {l} h => List.length_eq_one_iff.1 h
  have h2 : ∀ {l : List Co}, l.length = 2 → ∃ a b, l = [a, b] := fun {l} h => by
    match l, h with
    | [a, b], _ => exact ⟨a, b, rfl⟩
  have h3 : ∀ {l : List Co}, l.length = 3 → ∃ a b c, l = [a, b, c] := fun {l} h => by
    match l, h with
    | [a, b, c], _ => exact ⟨a, b, c, rfl⟩
  have hcase : op = 1 ∨ op = 2 ∨ op = 3 ∨ op = 4 ∨ op = 5 ∨ op = 6 ∨ op = 7 ∨ (8 ≤ op ∧ op ≤ 12) ∨ op = 13 ∨ op = 14 ∨ (op = 15 ∨ op = 16) ∨ op = 17 ∨ op = 18 := by omega
  rcases hcase with rfl | rfl | rfl | rfl | rfl | rfl | rfl | ho | rfl | rfl | ho | rfl | rfl
  · exact num1 hc hok hf hn
  · exact var2 hc hok hf he (by omega)
  · obtain ⟨a, rfl⟩ := h1 (l := ks) (by have : arC 3 = 1 := rfl; omega)
    simp only [Co.fits, Co.deeps, Bool.and_eq_true] at hks hd
    exact fun3 hc hok hf he hks.1 (by omega)
  · exact app4 IH hc hok hf hN he hks (by omega) (by have : arC 4 = 2 := rfl; omega)
  · obtain ⟨a, b, rfl⟩ := h2 (l := ks) (by have : arC 5 = 2 := rfl; omega)
    simp only [Co.fits, Co.deeps, Bool.and_eq_true] at hks hd
    exact let5 IH hc hok hf hN he hks.1 hks.2.1 (by omega) (by omega)
  · obtain ⟨a, b, rfl⟩ := h2 (l := ks) (by have : arC 6 = 2 := rfl; omega)
    simp only [Co.fits, Co.deeps, Bool.and_eq_true] at hks hd
    exact rec6 IH hc hok hf hN he hks.1 hks.2.1 (by simpa [eqI] using h6) (by omega) (by omega)
  · obtain ⟨a, b, c, rfl⟩ := h3 (l := ks) (by have : arC 7 = 3 := rfl; omega)
    simp only [Co.fits, Co.deeps, Bool.and_eq_true] at hks hd
    exact if7 IH hc hok hf hN he hks.1 hks.2.1 hks.2.2.1 (by omega) (by omega) (by omega)
  · have hl : ks.length = 2 := by
      have : arC op = 2 := by unfold arC; rw [if_neg (by omega), if_neg (by omega), if_pos (by omega)]
      omega
    exact plain8 IH hc hok hf hN he (Or.inl ho) hks (by omega) (by omega) fun s2 vs vs' g1 g2 g3 g4 g5 => by
      obtain ⟨a, b, a', b', rfl, rfl, ha, hb⟩ := g4.two (by omega)
      exact pl_math g1 g2 ho rfl ha hb
  · have : ks = [] := List.length_eq_zero_iff.1 (by have : arC 13 = 0 := rfl; omega)
    subst this
    exact nil13 hc hok hf
  · exact plain8 IH hc hok hf hN he (Or.inr (by omega)) hks (by omega) (by have : arC 14 = 2 := rfl; omega) fun s2 vs vs' g1 g2 g3 g4 g5 => by
      obtain ⟨a, b, a', b', rfl, rfl, ha, hb⟩ := g4.two (by have : arC 14 = 2 := rfl; omega)
      exact pl_cons g1 g2 rfl ha hb
  · have hl : ks.length = 1 := by
      have : arC op = 1 := by rcases ho with rfl | rfl <;> rfl
      omega
    exact plain8 IH hc hok hf hN he (Or.inr (by omega)) hks (by omega) (by omega) fun s2 vs vs' g1 g2 g3 g4 g5 => by
      obtain ⟨a, a', rfl, rfl, ha⟩ := g4.one (by omega)
      exact pl_car g1 g2 ho rfl ha
  · exact plain8 IH hc hok hf hN he (Or.inr (by omega)) hks (by omega) (by have : arC 17 = 1 := rfl; omega) fun s2 vs vs' g1 g2 g3 g4 g5 => by
      obtain ⟨a, a', rfl, rfl, ha⟩ := g4.one (by have : arC 17 = 1 := rfl; omega)
      exact pl_pair g1 g2 rfl ha
  · exact plain8 IH hc hok hf hN he (Or.inr (by omega)) hks (by omega) (by have : arC 18 = 1 := rfl; omega) fun s2 vs vs' g1 g2 g3 g4 g5 => by
      obtain ⟨a, a', rfl, rfl, ha⟩ := g4.one (by have : arC 18 = 1 := rfl; omega)
      exact pl_put g1 g2 g3 rfl ha
end
theorem evAll : ∀ N, EvAt N := by
  intro N
  induction N with
  | zero =>
    intro s c e es hc hN hok hfit he hd
    exact noFuel hc hok (by omega) c
  | succ N ih =>
    intro s c e es hc hN hok hfit he hd
    by_cases hf : 0 < s.f
    · exact evStep ih hc hok hf hN he c hfit hd
    · exact noFuel hc hok (by omega) c
end Go.Proofs.Ytdkfgnnebaahaaa.GFnExactEval
