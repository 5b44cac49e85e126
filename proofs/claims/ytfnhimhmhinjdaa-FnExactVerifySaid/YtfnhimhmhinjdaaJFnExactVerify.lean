/- What functions of the program and of the reference come to, for the law FnExactVerify. Each under the conditions that it names. -/
import Derived.Test.YtfnhimhmhinjdaaIFnExactVerify
namespace Go.Proofs.Ytfnhimhmhinjdaa.GFnExactVerify
open Go Go.Rsc Go.Proofs.Ytfnhimhmhinjdaa
set_option maxRecDepth 100000
set_option linter.unusedVariables false
set_option linter.unusedSimpArgs false
theorem Sol.conv {N : Nat} {chk : Nat → Int → Prop} {nx nx' : Nat → List Int} {bh : Nat → Int → Int} (hn : ∀ k s, s ∈ nx k ↔ s ∈ nx' k) {E : List Int} (he : Sol N chk nx bh E) : Sol N chk nx' bh E :=
  ⟨he.len, he.zero, fun k hk hd => ⟨(he.ok k hk hd).1, fun s hs => (he.ok k hk hd).2 s ((hn k s).2 hs)⟩⟩
theorem fill_step (N k : Nat) (a b : PV) (h : k < N) : (List.replicate k a ++ List.replicate (N - k) b).set k a = List.replicate (k + 1) a ++ List.replicate (N - (k + 1)) b := by
  have e : N - k = (N - (k + 1)) + 1 := by omega
  have := set_mid (List.replicate k a) (List.replicate (N - (k + 1)) b) b a
  rw [List.length_replicate] at this
  rw [e, List.replicate_succ, this, List.replicate_succ', List.append_assoc]
  rfl
theorem initI {ops : List PV} (ho : ops.length ≤ 3000) : Evt fun n => loopEv (L25_0 (ev Try.prog sg n) n) n [.int 0, .int ops.length, .list ops, .list (List.replicate ops.length (.int 0))] = some (.x 0, [.list ops, .list (List.replicate ops.length (.int (-1)))]) := by
  have := loop_run (body := fun n => L25_0 (ev Try.prog sg n) n) (fun k => [.int k, .int ops.length, .list ops, .list (List.replicate k (.int (-1)) ++ List.replicate (ops.length - k) (.int 0))]) ops.length (e := .x 0) (res := [.list ops, .list (List.replicate ops.length (.int (-1)))]) (fun k hk => Evt.all fun n => ?_) (Evt.all fun n => ?_) (by simp)
  · simpa using this
  · have hlen : (List.replicate k (PV.int (-1)) ++ List.replicate (ops.length - k) (PV.int 0)).length = ops.length := by simp; omega
    have := fill_step ops.length k (.int (-1)) (.int 0) hk
    simp (disch := omega) only [L25_0, nth_0, nth_1, nth_2, nth_3, toInt_int, toList_list, ltT, geT, hlen, iff_true', Int.toNat_natCast, this, wrap64]
    simp
  · simp (disch := omega) [L25_0, ltF]
theorem initS {fs ops : List PV} {i : Nat} {free : PV} (ho : ops.length ≤ 3000) (hi : i < fs.length) (hq : nth fs i = .agg [free, .list ops]) :
    Evt fun n => loopEv (L24_0 (ev Try.prog sg n) n) n [.int 0, .list fs, .int i, .agg [.list [], .list [], .bool true]] = some (.x 0, [.list fs, .int i, stS (List.replicate ops.length (-1)) [] true]) := by
  refine loop_run (body := fun n => L24_0 (ev Try.prog sg n) n) (fun k => [.int k, .list fs, .int i, .agg [.list (List.replicate k (.int (-1))), .list [], .bool true]]) ops.length (fun k hk => Evt.all fun n => ?_) (Evt.all fun n => ?_) (by simp)
  · have e : List.replicate k (PV.int (-1)) ++ [PV.int (-1)] = List.replicate (k + 1) (.int (-1)) := by rw [List.replicate_succ']
    simp (disch := omega) only [L24_0, nth_0, nth_1, nth_2, nth_3, fld_agg, sf0, toInt_int, toList_list, ltT, geT, Int.toNat_natCast, hq, leNT, List.length_replicate, List.length_singleton, iff_true', e, wrap64]
    simp
  · simp (disch := omega) [L24_0, ltF, geT, ltT, hq]
theorem depths {l : List PV} (hl : l.length ≤ 1048576) (hf : ∀ q, q ∈ l → FunOk q) (p : Int) : ∃ (out : List Int) (ok : Bool), out.length ≤ 3000 ∧ (∀ x, x ∈ out → -1 ≤ x ∧ x ≤ 60) ∧ (ok = true → funsOk l = true) ∧ Rn 25 [.list l, .int p] [ints out, .bool ok] ∧ Rn 24 [.list l, .int p] [ints out, .bool ok] := by
  have h44 := fun44 hl hf
  have h41 := fun41 hl hf
  have hw54 := is54 p 0 (IntKind.i64.wrap ((l.length : Int) - 1))
  have hw51 := is51 p 0 (IntKind.i64.wrap ((l.length : Int) - 1))
  cases hok : funsOk l with
  | false =>
    rw [hok] at h44 h41
    exact ⟨[], false, by simp, by simp, by simp, Is.of e25 (h44.mp fun n q1 => by simp [F25, q1]), Is.of e24 (h41.mp fun n q1 => by simp [F24, q1])⟩
  | true =>
  rw [hok] at h44 h41
  cases hin : okR p 0 (IntKind.i64.wrap ((l.length : Int) - 1)) with
  | false =>
    rw [hin] at hw54 hw51
    exact ⟨[], false, by simp, by simp, by simp, Is.of e25 (h44.mp2 hw54 fun n q1 q2 => by simp [F25, q1, q2]), Is.of e24 (h41.mp2 hw51 fun n q1 q2 => by simp [F24, q1, q2])⟩
  | true =>
  rw [hin] at hw54 hw51
  have hr := okR_in hin
  rw [wrap_len l hl] at hr
  obtain ⟨i, rfl⟩ : ∃ i : Nat, p = (i : Int) := ⟨p.toNat, by omega⟩
  have hi : i < l.length := by omega
  have hok0 := hok
  simp only [funsOk, Bool.and_eq_true] at hok
  have hokF := fun j (hj : j < l.length) => List.all_eq_true.1 hok.2.2 j (by simpa using hj)
  have hfree : ∀ j, j < l.length → 0 ≤ ((nth l j).fld 0).toInt ∧ ((nth l j).fld 0).toInt ≤ 20 := fun j hj => by
    have := hokF j hj
    simp only [okF, Bool.and_eq_true] at this
    exact okR_in this.1
  obtain ⟨free, ops, hq, ho, he⟩ := hf _ (nth_mem hi)
  have g := okF_good hl hfree hi hq he (hokF i hi)
  have hN := g.pos
  have hN3 := g.len
  have hu := unset_start hN
  have hst := Inv.start hN (chkD ops) (nxD ops) (bhD ops)
  have hstS := Inv.start hN (chkD ops) (nxDS ops) (bhD ops)
  have hconv : ∀ k s, s ∈ nxD ops k ↔ s ∈ nxDS ops k := fun k s => nxt_iff _ _ _ _ _
  have kI := outerI g 6000 _ _ hst (by simp; omega) (by simp; omega)
  have kS := outerS g hi hq 6000 _ _ hstS (by simp; omega) (by simp; omega)
  have hiI := initI hN3
  have hiS := initS hN3 hi hq
  have hrep : List.replicate ops.length (PV.int (-1)) = (List.replicate ops.length (-1 : Int)).map PV.int := by simp
  have hgo : Rn 52 [stS (List.replicate ops.length (-1)) [] true, .int 0, .int 1] [stS ((List.replicate ops.length (-1)).set 0 1) [0] true] := by
    have := go_new (D := List.replicate ops.length (-1)) (T := []) (ok := true) (s := 0) (b := 1) (by simp; omega) (by decide) (by rw [gd_fresh]; decide) (by simp)
    exact this
  have hset : (List.replicate ops.length (PV.int (-1))).set 0 (.int 1) = ((List.replicate ops.length (-1 : Int)).set 0 1).map PV.int := by rw [hrep, set_map]
  have hI : ∀ r, (Evt fun n => ∀ m, 6000 + 1 ≤ m → loopEv (L25_2 (ev Try.prog sg n) n) m [ints [0], .list ops, ints ((List.replicate ops.length (-1 : Int)).set 0 1)] = some r) → ∀ r2, thenN (thenE (some r) (passB 2)) (fun p11 => (some [(nth p11 0), (PV.bool true)])) (retE fun q12 => [(nth q12 0), (nth q12 1)]) = some r2 → Rn 25 [.list l, .int i] r2 := fun r hr r2 hr2 => by
    refine Is.of e25 ((h44.and hw54).mp3 hiI ((Evt.ge 6001).and hr) fun n ⟨q1, q2⟩ q3 ⟨q0, q4⟩ => ?_)
    have q5 := q4 n (by omega)
    have e0 : ints [0] = .list [.int 0] := rfl
    rw [e0] at q5
    simp only [ints] at q5
    simp (disch := omega) only [F25, nth_0, nth_1, toInt_int, toList_list, toBool_bool, q1, q2, q3, hq, fld_agg, Option.bind_some, Bool.not_true, Bool.not_false, beq_self_eq_true, selB_true, selB_false, iff_true', iff_false', Int.toNat_natCast, geT, ltT, leT, List.length_replicate, thenE_some, passB_same, thenN_n]
    rw [show Int.toNat 0 = 0 from rfl, hset, q5]
    exact hr2
  have hS : ∀ D' T' ok, (Evt fun n => ∀ m, 6000 + 2 ≤ m → loopEv (L24_1 (ev Try.prog sg n) n) m [.list l, .int i, stS ((List.replicate ops.length (-1 : Int)).set 0 1) [0] true] = some (.x 2, [stS D' T' ok])) → Rn 24 [.list l, .int i] [if ok then ints D' else .list [], .bool ok] := fun D' T' ok hr => by
    refine Is.of e24 ((h41.and hw51).mp4 hiS hgo ((Evt.ge 6002).and hr) fun n ⟨q1, q2⟩ q3 q6 ⟨q0, q4⟩ => ?_)
    have q5 := q4 n (by omega)
    simp (disch := omega) only [F24, nth_0, nth_1, nth_2, toInt_int, toList_list, toBool_bool, q1, q2, q3, q6, q5, Option.bind_some, Bool.not_true, Bool.not_false, beq_self_eq_true, selB_true, selB_false, iff_true', iff_false', thenE_some, passB_same, thenN_n]
    cases ok <;> rfl
  rcases kI with ⟨D, k1, k2⟩ | ⟨k1, k2⟩
  · rcases kS with ⟨D', j1, j2⟩ | ⟨j1, _⟩
    · have hDD : D = D' := Sol.unique hconv k1 j1
      subst hDD
      refine ⟨D, true, by rw [k1.len]; exact hN3, fun x hx => ?_, fun _ => by first | exact hok0 | rfl, hI _ k2 _ (by simp), by simpa using hS D [] true j2⟩
      obtain ⟨k, hk, rfl⟩ := List.getElem_of_mem hx
      have hk2 := k1.rng k (by rw [← k1.len]; exact hk)
      have e : gd D k = D[k] := by unfold gd; simp [List.getD_eq_getElem?_getD, hk]
      rw [e] at hk2
      omega
    · exact absurd (k1.sol.conv hconv) (j1 D)
  · rcases kS with ⟨D', j1, j2⟩ | ⟨j1, D', T', j2⟩
    · exact absurd (j1.sol.conv fun k s => (hconv k s).symm) (k1 D')
    · exact ⟨[], false, by simp, by simp, by simp, hI _ k2 _ (by simp), hS D' T' false j2⟩
end Go.Proofs.Ytfnhimhmhinjdaa.GFnExactVerify
