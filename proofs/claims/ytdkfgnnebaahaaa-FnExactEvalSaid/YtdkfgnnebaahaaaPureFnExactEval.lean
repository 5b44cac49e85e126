/- What functions of the program and of the reference come to, for the law FnExactEval. Each under the conditions that it names. -/
import Derived.Test.YtdkfgnnebaahaaaHFnExactEval
namespace Go.Proofs.Ytdkfgnnebaahaaa.GFnExactEval
open Go Go.Rsc Go.Proofs.Ytdkfgnnebaahaaa
set_option maxRecDepth 100000
set_option linter.unusedVariables false
set_option linter.unusedSimpArgs false
local notation "e0" => (⟨#[]⟩ : ByteArray)
local notation "zc" => PV.agg [PV.int 0, PV.int 0, PV.str (⟨#[]⟩ : ByteArray), PV.str (⟨#[]⟩ : ByteArray), PV.list []]
local notation "vNil" => PV.list [PV.agg [PV.int 2, PV.int 0, PV.list [], PV.list [], PV.str (⟨#[]⟩ : ByteArray), PV.agg [PV.int 0, PV.int 0, PV.str (⟨#[]⟩ : ByteArray), PV.str (⟨#[]⟩ : ByteArray), PV.list []], PV.list []]]
local notation "wZero" => PV.agg [PV.int 0, PV.int 0, PV.list [], PV.agg [PV.int 0, PV.int 0, PV.str (⟨#[]⟩ : ByteArray), PV.str (⟨#[]⟩ : ByteArray), PV.list []], PV.str (⟨#[]⟩ : ByteArray), PV.str (⟨#[]⟩ : ByteArray), PV.list []]
set_option maxHeartbeats 8000000
/-! ### What is told -/
theorem over_leaf {v' : PV} (h : v'.fld 2 = .list []) (left : Nat) (hl : left ≤ 1000) : Rn 17 [v', .int ((left + 1 : Nat) : Int)] [.bool false] := by
  have hloop := loop_run (body := fun n => L17_0 (ev Try.prog sg n) n) (e := .x 0) (res := []) (fun i => [.int i, .int ((left + 1 : Nat) : Int), v']) 0 (fun i hi => by omega) (Evt.all fun n => by simp [L17_0, h, ltI]) (by simp)
  refine Is.of e17 (hloop.mp fun k q => ?_)
  have q' : loopEv (L17_0 (ev Try.prog sg k) k) k [.int 0, .int ((left + 1 : Nat) : Int), v'] = some (.x 0, []) := q
  have h0 : eqI ((left + 1 : Nat) : Int) 0 = false := eqF (by omega)
  simp only [F17, nth_0, nth_1, toInt_int, h0, iff_false', q', thenE_some, passB_same, thenN_n]
theorem told_leaf {k n : Int} {b x : PV} {r r2 : PV} : Rn 18 [.agg [.int k, .int n, .list [], b, r, r2, x]] [.agg [.int k, .int n, .list []]] := by
  have hloop := loop_run (body := fun m => L18_0 (ev Try.prog sg m) m) (e := .x 0) (res := [.agg [.int k, .int n, .list []], .agg [.int 0, .int 0, .list []]]) (fun i => [.int i, .agg [.int k, .int n, .list [], b, r, r2, x], .agg [.int k, .int n, .list []], .agg [.int 0, .int 0, .list []]]) 0 (fun i hi => by omega) (Evt.all fun n => by simp [L18_0, ltI]) (by simp)
  refine Is.of e18 (hloop.mp fun m q => ?_)
  simp at q
  simp [F18, q]
theorem wfLeaf {k n : Int} (hk : in64 k) (hn : in64 n) : WfT Try.prog 28 (.agg [.int k, .int n, .list []]) := mk28 hk hn (.slice (e := 28) (by kernel_rfl) (by simp) (by simp))
def Told (left : Nat) (v v' : PV) : Prop := ∃ (tv : PV) (ok : Bool), Rn 22 [v, .int left] [tv, .bool ok] ∧ Rn 17 [v', .int left] [.bool (!ok)] ∧ (ok = true → Rn 18 [v'] [tv] ∧ WfT Try.prog 28 tv ∧ tv.wt + 2 ≤ 2 ^ (left + 1))
theorem toldR : ∀ (left : Nat), left ≤ 1000 → ∀ {v v' : PV}, VR v v' → Told left v v' := by
  intro left
  induction left with
  | zero =>
    intro _ v v' h
    exact ⟨.agg [.int 0, .int 0, .list []], false, Is.of e22 (Evt.all fun k => by simp [F22, eqI]), Is.of e17 (Evt.all fun k => by simp [F17, eqI]), fun h => by cases h⟩
  | succ left ih =>
    intro hl v v' h
    have h0 : eqI ((left + 1 : Nat) : Int) 0 = false := eqF (by omega)
    have hp : (2 : Nat) ≤ 2 ^ (left + 1 + 1) := by have := Nat.pow_le_pow_right (n := 2) (by omega) (show 1 ≤ left + 1 + 1 by omega); simpa using this
    have wl : ∀ k n : Int, (PV.agg [.int k, .int n, .list []]).wt + 2 ≤ 2 ^ (left + 1 + 1) := fun k n => by simpa using hp
    cases h with
    | int n hn =>
      refine ⟨.agg [.int 1, .int n, .list []], true, Is.of e22 (Evt.all fun k => ?_), over_leaf rfl left (by omega), fun _ => ⟨told_leaf, wfLeaf (by unfold in64; omega) hn, wl _ _⟩⟩
      simp only [F22, nth_0, nth_1, toInt_int, h0, iff_false']
      simp [gtI, eqI]
    | nil =>
      refine ⟨.agg [.int 2, .int 0, .list []], true, Is.of e22 (Evt.all fun k => ?_), over_leaf rfl left (by omega), fun _ => ⟨told_leaf, wfLeaf (by unfold in64; omega) (by unfold in64; omega), wl _ _⟩⟩
      simp only [F22, nth_0, nth_1, toInt_int, h0, iff_false']
      simp [gtI, eqI]
    | clo arg c g1 g2 g3 =>
      refine ⟨.agg [.int 4, .int 0, .list []], true, Is.of e22 (Evt.all fun k => ?_), over_leaf rfl left (by omega), fun _ => ⟨told_leaf, wfLeaf (by unfold in64; omega) (by unfold in64; omega), wl _ _⟩⟩
      simp only [F22, nth_0, nth_1, toInt_int, h0, iff_false']
      simp [gtI, eqI]
    | recf self arg c g1 g2 g3 g4 =>
      refine ⟨.agg [.int 4, .int 0, .list []], true, Is.of e22 (Evt.all fun k => ?_), over_leaf rfl left (by omega), fun _ => ⟨told_leaf, wfLeaf (by unfold in64; omega) (by unfold in64; omega), wl _ _⟩⟩
      simp only [F22, nth_0, nth_1, toInt_int, h0, iff_false']
      simp [gtI, eqI]
    | pair ha hb =>
      rename_i a b a' b'
      obtain ⟨ta, oa, a1, a2, a3⟩ := ih (by omega) ha
      obtain ⟨tb, ob, b1, b2, b3⟩ := ih (by omega) hb
      have hw : IntKind.i64.wrap (((left + 1 : Nat) : Int) - 1) = left := by rw [wrap64 (by omega) (by omega)]; omega
      have hover : Rn 17 [.agg [.int 3, .int 0, .list [a', b'], zc, .str e0, .str e0, .list []], .int ((left + 1 : Nat) : Int)] [.bool (!(oa && ob))] := by
        have hloop := all_loop (body := fun n => L17_0 (ev Try.prog sg n) n) (e1 := .x 0) (e2 := .r) (r1 := []) (r2 := [.bool true]) (pay := fun i => [.int i, .int ((left + 1 : Nat) : Int), .agg [.int 3, .int 0, .list [a', b'], zc, .str e0, .str e0, .list []]]) (c := fun i => if i = 0 then oa else ob) 2 (by simp) (by simp) (fun i hi hc => ?_) (fun i hi hc => ?_) (Evt.all fun n => by simp [L17_0, ltI])
        · refine Is.of e17 (hloop.mp fun k q => ?_)
          have e2 : (List.range 2).all (fun i => if i = 0 then oa else ob) = (oa && ob) := by simp [List.range, List.range.loop]
          have q' : loopEv (L17_0 (ev Try.prog sg k) k) k [.int 0, .int ((left + 1 : Nat) : Int), .agg [.int 3, .int 0, .list [a', b'], zc, .str e0, .str e0, .list []]] = if (List.range 2).all (fun i => if i = 0 then oa else ob) then some (.x 0, []) else some (.r, [.bool true]) := q
          rw [e2] at q'
          simp only [F17, nth_0, nth_1, toInt_int, h0, iff_false', q']
          cases (oa && ob) <;> simp
        · have : i = 0 ∨ i = 1 := by omega
          rcases this with rfl | rfl
          · refine a2.mp fun k q => ?_
            have hc : oa = true := hc
            simp [L17_0, ltI, geI, -Int.natCast_add, hw, q, hc, wrap64]
          · refine b2.mp fun k q => ?_
            have hc : ob = true := hc
            simp [L17_0, ltI, geI, -Int.natCast_add, hw, q, hc, wrap64]
        · have : i = 0 ∨ i = 1 := by omega
          rcases this with rfl | rfl
          · refine a2.mp fun k q => ?_
            have hc : oa = false := hc
            simp [L17_0, ltI, geI, -Int.natCast_add, hw, q, hc]
          · refine b2.mp fun k q => ?_
            have hc : ob = false := hc
            simp [L17_0, ltI, geI, -Int.natCast_add, hw, q, hc]
      cases oa with
      | false =>
        refine ⟨.agg [.int 0, .int 0, .list []], false, Is.of e22 (a1.mp fun k q => ?_), by simpa using hover, fun h => by cases h⟩
        simp only [F22, nth_0, nth_1, toInt_int, h0, iff_false', hw]
        simp [gtI, eqI, q]
      | true =>
        cases ob with
        | false =>
          refine ⟨.agg [.int 0, .int 0, .list []], false, Is.of e22 (a1.mp2 b1 fun k q1 q2 => ?_), by simpa using hover, fun h => by cases h⟩
          simp only [F22, nth_0, nth_1, toInt_int, h0, iff_false', hw]
          simp [gtI, eqI, q1, q2]
        | true =>
          obtain ⟨a4, a5, a6⟩ := a3 rfl
          obtain ⟨b4, b5, b6⟩ := b3 rfl
          refine ⟨.agg [.int 3, .int 0, .list [ta, tb]], true, Is.of e22 (a1.mp2 b1 fun k q1 q2 => ?_), by simpa using hover, fun _ => ⟨?_, ?_, ?_⟩⟩
          · simp only [F22, nth_0, nth_1, toInt_int, h0, iff_false', hw]
            simp [gtI, eqI, q1, q2]
          · have hloop := loop_run (body := fun m => L18_0 (ev Try.prog sg m) m) (e := .x 0) (res := [.agg [.int 3, .int 0, .list [ta, tb]], .agg [.int 0, .int 0, .list []]]) (fun i => [.int i, .agg [.int 3, .int 0, .list [a', b'], zc, .str e0, .str e0, .list []], .agg [.int 3, .int 0, .list (if i = 0 then [] else if i = 1 then [ta] else [ta, tb])], .agg [.int 0, .int 0, .list []]]) 2 (fun i hi => ?_) (Evt.all fun n => by simp [L18_0, ltI]) (by simp)
            · refine Is.of e18 (hloop.mp fun m q => ?_)
              simp at q
              simp [F18, q]
            · have : i = 0 ∨ i = 1 := by omega
              rcases this with rfl | rfl
              · exact a4.mp fun k q => by simp [L18_0, ltI, geI, leN, q, wrap64]
              · exact b4.mp fun k q => by simp [L18_0, ltI, geI, leN, q, wrap64]
          · refine mk28 (by omega) (by omega) (.slice (e := 28) (by kernel_rfl) (by have hm : maxLen = 9223372036854775807 := rfl; simp only [List.length_cons, List.length_nil]; omega) fun q hq => ?_)
            simp at hq
            rcases hq with rfl | rfl
            · exact a5
            · exact b5
          · have : 2 ^ (left + 1 + 1) = 2 ^ (left + 1) + 2 ^ (left + 1) := by rw [Nat.pow_succ]; omega
            simp
            omega
theorem wf_ints {l : List Int} (hl : l.length ≤ 4000) (h : ∀ x, x ∈ l → in64 x) : WfT Try.prog 29 (ints l) ∧ (ints l).wt ≤ 4000 := by
  have hm : maxLen = 9223372036854775807 := rfl
  refine ⟨.slice (e := 3) (by kernel_rfl) (by rw [List.length_map]; omega) fun q hq => ?_, ?_⟩
  · obtain ⟨x, hx, rfl⟩ := List.mem_map.1 hq
    exact .int (k := .i64) (by kernel_rfl) (wf_mk64 (h x hx).1 (h x hx).2)
  · have : PV.wts (l.map PV.int) = 0 := wts_zero fun q hq => by
      obtain ⟨x, hx, rfl⟩ := List.mem_map.1 hq
      simp
    simp [ints, this, hl]
/-! ### Both come to the same -/
theorem both (c : Co) (x : Int) (hc : c.size ≤ 2097152) (hx : in64 x) : ∃ R, Rn 7 [c.pv, .int x] [R] ∧ Rn 5 [c.pv, .int x] [R] ∧ WfT Try.prog 31 R ∧ R.wt ≤ 200000 := by
  have hI := okI c hc
  have hS := okS c hc
  have hz : WfT Try.prog 28 (.agg [.int 0, .int 0, .list []]) := wfLeaf (by unfold in64; omega) (by unfold in64; omega)
  have hmin : Rn 15 [.int x, .int 4000] [.int (if 4000 < x then 4000 else x)] := by
    refine Is.of e15 (Evt.all fun k => ?_)
    by_cases h : x < 4000
    · have : ¬ 4000 < x := by omega
      simp [F15, ltI, h, this]
    · by_cases h2 : 4000 < x
      · simp [F15, ltI, h, h2]
      · have : x = 4000 := by omega
        subst this
        simp [F15, ltI]
  cases hok : okC c with
  | false =>
    rw [hok] at hI hS
    refine ⟨.agg [.int 2, .agg [.int 0, .int 0, .list []], .list []], Is.of e7 (hI.mp fun k q => by simp [F7, q]), Is.of e5 (hS.mp fun k q => by simp [F5, q]), ?_, by simp⟩
    exact mk31 (by omega) hz (.slice (e := 3) (by kernel_rfl) (by simp) (by simp))
  | true =>
    rw [hok] at hI hS
    have hrt : c.right [] = true ∧ c.deep ≤ 150 := by
      simp only [okC, Bool.and_eq_true, decide_eq_true_eq] at hok
      exact ⟨hok.2.2, hok.2.1⟩
    have hs0 : St.ok ⟨if 4000 < x then 4000 else x, 0, []⟩ := by
      refine ⟨by show (if 4000 < x then 4000 else x) ≤ 4000; split <;> omega, by show _ ≤ (if 4000 < x then 4000 else x); have := hx.1; split <;> omega, ?_, (fun y hy => by cases hy), Or.inl rfl⟩
      show 0 + (if 4000 < x then (4000 : Int) else x).toNat ≤ 4000
      split <;> omega
    obtain ⟨v, v', s', r1, r2, r3, r4, r5, r6⟩ := evAll _ ⟨if 4000 < x then 4000 else x, 0, []⟩ c (.list []) [] rfl (Nat.le_refl _) hs0 (fit_of c [] hrt.1) ER.nil (by simp; omega)
    obtain ⟨o1, o2, o3, o4, o5⟩ := r3
    have hlen : s'.o.length ≤ 4000 := by unfold St.pot at o3; omega
    obtain ⟨wi, wi2⟩ := wf_ints hlen o4
    have hsel : selB (ltI 4000 x) (.int 4000) (.int x) = .int (if 4000 < x then 4000 else x) := by
      by_cases h : 4000 < x <;> simp [ltI, h]
    have r1' : Rn 21 [.agg [.int (if 4000 < x then 4000 else x), .int 0, .list []], c.pv, .list []] [v, s'.pv] := r1
    have r2' : Rn 16 [.agg [.int (if 4000 < x then 4000 else x), .int 0, .list []], c.pv, .list []] [v', s'.pv] := r2
    have hpv : s'.pv = .agg [.int s'.f, .int s'.c, ints s'.o] := rfl
    rw [hpv] at r1' r2'
    by_cases hc0 : s'.c = 0
    · obtain ⟨tv, ok, t1, t2, t3⟩ := toldR 16 (by omega) (r6 hc0)
      have t1' : Rn 22 [v, .int 16] [tv, .bool ok] := t1
      have t2' : Rn 17 [v', .int 16] [.bool (!ok)] := t2
      cases ok with
      | true =>
        obtain ⟨t4, t5, t6⟩ := t3 rfl
        refine ⟨.agg [.int 0, tv, ints s'.o], Is.of e7 ((hI.and r1').mp2 t1' fun k q1 q2 => ?_), Is.of e5 ((hS.and (hmin.and r2')).mp3 t2' t4 fun k q1 q2 q3 => ?_), mk31 (by omega) t5 wi, by simp at t6 ⊢; omega⟩
        · obtain ⟨p1, p2⟩ := q1
          simp [F7, p1, hsel, p2, hc0, eqI, q2]
        · obtain ⟨p1, p2, p3⟩ := q1
          simp [F5, p1, p2, p3, hc0, eqI, neI, q2, q3]
      | false =>
        refine ⟨.agg [.int 1, .agg [.int 0, .int 0, .list []], ints s'.o], Is.of e7 ((hI.and r1').mp2 t1' fun k q1 q2 => ?_), Is.of e5 ((hS.and (hmin.and r2')).mp2 t2' fun k q1 q2 => ?_), mk31 (by omega) hz wi, by simp; omega⟩
        · obtain ⟨p1, p2⟩ := q1
          simp [F7, p1, hsel, p2, hc0, eqI, q2]
        · obtain ⟨p1, p2, p3⟩ := q1
          simp [F5, p1, p2, p3, hc0, eqI, neI, q2]
    · have e1 : eqI s'.c 0 = false := eqF hc0
      have e2 : neI s'.c 0 = true := neT hc0
      refine ⟨.agg [.int s'.c, .agg [.int 0, .int 0, .list []], ints s'.o], Is.of e7 (hI.mp2 r1' fun k p1 p2 => ?_), Is.of e5 (hS.mp3 hmin r2' fun k p1 p2 p3 => ?_), mk31 (by omega) hz wi, by simp; omega⟩
      · simp [F7, p1, hsel, p2, e1]
      · simp [F5, p1, p2, p3, e1, e2]
/-! ### The law -/
theorem law {p : PV} {x : Int} (h : WfT Try.prog 24 p) (hx : in64 x) : Rn 3 [p, .int x] [.bool true] := by
  have hsz := sz_4 h (x := 1048576) (by omega) (by omega)
  by_cases hneg : szR 1048576 p.wt < 0
  · refine Is.of e3 (hsz.mp fun n h1 => ?_)
    simp [F3, h1, ltT hneg]
  have hw : p.wt ≤ 1048576 := by have := mt (szR_neg (x := 1048576) (w := p.wt) (by omega)).2 hneg; omega
  have hto := to_6 h hw
  have heqa := eq_9 h
  have hcn : p.cn ≤ 4 + 64 * p.wt := by
    obtain ⟨x0, x1, x2, x3, x4, rfl, xh0, xh1, xh2, xh3, xh4⟩ := wf24 h
    have := cn_22 xh4
    simp
    omega
  obtain ⟨mr, mq, hm0, hmk⟩ := markC h (k := 1) (by omega) (by omega)
  obtain ⟨c, rfl, hcs⟩ := co_of _ p rfl h
  obtain ⟨R, b1, b2, b3, b4⟩ := both c x (by omega) hx
  have heqr := eq_8 b3
  have hsn := sn31_le b3
  obtain ⟨q2, hg, hmr⟩ := mark_11 b3 (k := 1) (by omega) (by omega)
  have hhr := held_12 b3 (k := 1) (by omega) (by omega) hg
  refine Is.of e3 ((Evt.and (hsz.and (hto.and heqa)) (Evt.and (hmk.and (b1.and b2)) (Evt.and heqr (hmr.and hhr)))).mp fun n h1 => ?_)
  obtain ⟨⟨h1, h2, h3⟩, ⟨h4, h5, h6⟩, h7, h8, h9⟩ := h1
  have l1 : ltI (szR 1048576 c.pv.wt) 0 = false := ltF (by omega)
  have l2 : ltI mr 0 = false := ltF hm0
  have l3 : ltI (1 + (sn31 R : Int)) 0 = false := ltF (by omega)
  have l4 : neI (1 + (sn31 R : Int)) (1 + (sn31 R : Int)) = false := neF rfl
  simp [F3, h1, h2, h3, h4, h5, h6, h7, h8, h9, l1, l2, l3, l4]
theorem pure_law (ps : List PV) (hl : ps.length = 2) (hwf : ∀ (j : Nat) t p, [24, 3][j]? = some t → ps[j]? = some p → WfT Try.prog t p) : ∃ n, ev Try.prog sg n 3 ps = some [.bool true] := by
  match ps, hl with
  | [p, q], _ =>
    obtain ⟨x, rfl, hx⟩ := wf_int (k := .i64) (by kernel_rfl) (hwf 1 3 q rfl rfl)
    exact (law (hwf 0 24 p rfl rfl) (wf64 hx)).get
end Go.Proofs.Ytdkfgnnebaahaaa.GFnExactEval
