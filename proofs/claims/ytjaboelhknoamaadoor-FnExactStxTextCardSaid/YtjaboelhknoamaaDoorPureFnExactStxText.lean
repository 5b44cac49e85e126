/- What functions of the program and of the reference come to, for the law FnExactStxText. Each under the conditions that it names. -/
import Derived.Test.YtjaboelhknoamaaDoorBFnExactStxText
namespace Go.Proofs.YtjaboelhknoamaaDoor.GFnExactStxText
open Go Go.Rsc Go.Proofs.YtjaboelhknoamaaDoor
set_option maxRecDepth 100000
set_option linter.unusedVariables false
set_option linter.unusedSimpArgs false
/-! ### Syntax, written out -/
def TxOk (q : PV) (t : List UInt8) : Prop := Rn 20 [q] [.str (sB t)] ∧ Rn 18 [q] [.str (sB t)]
theorem bt32 : (⟨#[32]⟩ : ByteArray) = sB [32] := rfl
theorem bt40 : (⟨#[40]⟩ : ByteArray) = sB [40] := rfl
theorem bt41 : (⟨#[41]⟩ : ByteArray) = sB [41] := rfl
theorem bt63 : (⟨#[63]⟩ : ByteArray) = sB [63] := rfl
theorem kidsI {x0 x1 x2 : Int} {x3 : ByteArray} {x4 : PV} {l : List PV} {T : List (List UInt8)} (h3 : x0 = 3) (hl : l.length ≤ 1048576) (hT : T.length = l.length) (hk : ∀ k, k < l.length → TxOk (nth l k) (T.getD k [])) (hL : Lib.lens T ≤ 100000000) :
    Rn 20 [.agg [.int x0, .int x1, .int x2, .str x3, x4, .list l]] [.str (sB ([40] ++ Lib.join T [32] ++ [41]))] := by
  subst h3
  have hloop : Evt fun n => loopEv (L20_0 (ev Tryd.prog sg n) n) n [.int ((0 : Nat) : Int), .int l.length, .list l, .list (txts (T.take 0))] = some (.x 1, [.list (txts T)]) := by
    refine loop_run (fun k => [.int ((k : Nat) : Int), .int l.length, .list l, .list (txts (T.take k))]) l.length (fun k hlt => ?_) (Evt.all fun n => ?_) (by decide)
    · refine (hk k hlt).1.mp fun n hd => ?_
      have c1 : ltI (k : Int) l.length = true := ltT (by omega)
      have c2 : geI (k : Int) 0 = true := geT (by omega)
      have w1 : IntKind.i64.wrap ((k : Int) + 1) = ((k + 1 : Nat) : Int) := by rw [wrap64 (by omega) (by omega)]; omega
      have hk' : ((k : Int)).toNat = k := by omega
      have c4 : leN ((txts (T.take k)).length + [PV.str (sB (T.getD k []))].length) 8796093022208 = true := leNT (by simp [txts]; omega)
      have e1 : txts (T.take k) ++ [PV.str (sB (T.getD k []))] = txts (T.take (k + 1)) := by
        unfold txts
        rw [List.take_add_one, List.getElem?_eq_getElem (by omega), List.map_append]
        congr 1
        simp [List.getD_eq_getElem?_getD, show k < T.length by omega]
      simp only [L20_0, nth_0, nth_1, nth_2, nth_3, toInt_int, toList_list, c1, iff_true', c2, hk', hd, Option.bind_some, c4, w1, e1]
    · have c1 : ltI (l.length : Int) l.length = false := ltF (by omega)
      have e : T.take l.length = T := by rw [← hT, List.take_length]
      simp only [L20_0, nth_0, nth_1, nth_2, nth_3, toInt_int, toList_list, c1, iff_false', e]
  have hjl := joinT_len T
  have hj := joinO (L := T) (sep := [32]) (by omega) (by omega)
  refine Is.of e20 (hloop.mp2 hj fun n h h3 => ?_)
  have h' : loopEv (L20_0 (ev Tryd.prog sg n) n) n [.int (0 : Int), .int l.length, .list l, .list []] = some (.x 1, [.list (txts T)]) := h
  have h3' : ev Tryd.prog sg n 43 [.list (txts T), .str (sB [32])] = some [.str (sB (Lib.join T [32])), .list (txts T)] := h3
  simp (disch := (first | omega | (simp only [size_sB, List.length_append, List.length_cons, List.length_nil]; omega))) only [F20, nth_0, nth_1, nth_2, nth_3, nth_4, nth_5, fld_agg, toInt_int, toList_list, toStr_str, eqF, eqT, iff_true', iff_false', h', thenE_some, passB_same, thenN_n, bt32, bt40, bt41, h3', Option.bind_some, catB_sB, leT]
theorem kidsS {x0 x1 x2 : Int} {x3 : ByteArray} {x4 : PV} {l : List PV} {T : List (List UInt8)} (h3 : x0 = 3) (hl : l.length ≤ 1048576) (hT : T.length = l.length) (hk : ∀ k, k < l.length → TxOk (nth l k) (T.getD k [])) (hL : Lib.lens T ≤ 100000000) :
    Rn 18 [.agg [.int x0, .int x1, .int x2, .str x3, x4, .list l]] [.str (sB ([40] ++ Lib.join T [32] ++ [41]))] := by
  subst h3
  generalize hp : PV.agg [.int 3, .int x1, .int x2, .str x3, x4, .list l] = p
  have hp5 : p.fld 5 = .list l := by rw [← hp]; rfl
  have hp0 : p.fld 0 = .int 3 := by rw [← hp]; rfl
  have hloop : Evt fun n => loopEv (L18_0 (ev Tryd.prog sg n) n) n [.int ((0 : Nat) : Int), .str (sB ([40] ++ Lib.join (T.take 0) [32])), p] = some (.x 1, [.str (sB ([40] ++ Lib.join T [32]))]) := by
    refine loop_run (fun k => [.int ((k : Nat) : Int), .str (sB ([40] ++ Lib.join (T.take k) [32])), p]) l.length (fun k hlt => ?_) (Evt.all fun n => ?_) (by decide)
    · refine (hk k hlt).2.mp fun n hd => ?_
      have h2 := joinT_take T k
      have h1 := lens_at (T := T) (k := k) (by omega)
      have c1 : ltI (k : Int) l.length = true := ltT (by omega)
      have c2 : geI (k : Int) 0 = true := geT (by omega)
      have w1 : IntKind.i64.wrap ((k : Int) + 1) = ((k + 1 : Nat) : Int) := by rw [wrap64 (by omega) (by omega)]; omega
      have hk' : ((k : Int)).toNat = k := by omega
      have e0 := joinT_succ (T := T) (k := k) (by omega)
      by_cases h0 : k = 0
      · subst h0
        have c3 : gtI ((0 : Nat) : Int) 0 = false := gtF (by omega)
        have c4' : ((sB ([40] ++ Lib.join (T.take 0) [32] ++ T.getD 0 [])).size : Int) ≤ 9223372036854775807 := by simp only [size_sB, List.length_append, List.length_cons, List.length_nil]; omega
        have e1 : [40] ++ Lib.join (T.take 0) [32] ++ T.getD 0 [] = [40] ++ Lib.join (T.take 1) [32] := by rw [e0, if_pos rfl]; simp [Lib.join_nil]
        have c4 := leT (e1 ▸ c4')
        simp only [L18_0, nth_0, nth_1, nth_2, toInt_int, hp5, toList_list, c1, iff_true', c3, iff_false', thenN_n, c2, hk', hd, Option.bind_some, toStr_str, catB_sB, c4, w1, e1]
      · have c3 : gtI (k : Int) 0 = true := gtT (by omega)
        have c4 : leI ((sB ([40] ++ Lib.join (T.take k) [32] ++ [32])).size : Int) 9223372036854775807 = true := leT (by simp only [size_sB, List.length_append, List.length_cons, List.length_nil]; omega)
        have c5' : ((sB ([40] ++ Lib.join (T.take k) [32] ++ [32] ++ T.getD k [])).size : Int) ≤ 9223372036854775807 := by simp only [size_sB, List.length_append, List.length_cons, List.length_nil]; omega
        have e1 : [40] ++ Lib.join (T.take k) [32] ++ [32] ++ T.getD k [] = [40] ++ Lib.join (T.take (k + 1)) [32] := by rw [e0, if_neg h0]; simp
        have c5 := leT (e1 ▸ c5')
        simp only [L18_0, nth_0, nth_1, nth_2, toInt_int, hp5, toList_list, c1, iff_true', c3, thenN_n, c2, hk', hd, Option.bind_some, toStr_str, bt32, catB_sB, c4, c5, w1, e1]
    · have c1 : ltI (l.length : Int) l.length = false := ltF (by omega)
      have e : T.take l.length = T := by rw [← hT, List.take_length]
      simp only [L18_0, nth_0, nth_1, nth_2, toInt_int, hp5, toList_list, c1, iff_false', e]
  have hjl := joinT_len T
  refine Is.of e18 (hloop.mp fun n h => ?_)
  have h' : loopEv (L18_0 (ev Tryd.prog sg n) n) n [.int (0 : Int), .str (sB [40]), p] = some (.x 1, [.str (sB ([40] ++ Lib.join T [32]))]) := by simpa [Lib.join_nil] using h
  simp (disch := (first | omega | (simp only [size_sB, List.length_append, List.length_cons, List.length_nil]; omega))) only [F18, nth_0, hp0, toInt_int, eqF, eqT, iff_true', iff_false', bt40, h', thenE_some, passB_same, thenN_n, toStr_str, bt41, catB_sB, leT]
theorem stxT : ∀ (N : Nat) (p : PV), SizeOf.sizeOf p = N → WfT Tryd.prog 44 p → p.wt ≤ 1048576 → ∃ t, TxOk p t ∧ t.length ≤ 32 * p.wt + 24 := by
  intro N
  induction N using Nat.strongRecOn with
  | _ N ih =>
    intro p hN h hw
    obtain ⟨x0, x1, x2, x3, x4, x5, rfl, h0, h1, h2, h3, h4, h5⟩ := wf44 h
    by_cases c1 : x0 = 1
    · subst c1
      have hl := itoa_len h2.1 h2.2
      refine ⟨Lib.itoa x2, ⟨Is.of e20 ((digI h2.1 h2.2).mp fun n hd => ?_), Is.of e18 ((digS h2.1 h2.2).mp fun n hd => ?_)⟩, by omega⟩
      · simp (disch := omega) only [F20, nth_0, nth_2, fld_agg, toInt_int, eqT, iff_true', hd, Option.bind_some, dgB]
      · simp (disch := omega) only [F18, nth_0, nth_2, fld_agg, toInt_int, eqT, iff_true', hd, Option.bind_some, dgB]
    by_cases c2 : x0 = 2
    · subst c2
      obtain ⟨S, rfl, hr⟩ := intsOf h4
      obtain ⟨nm, rfl⟩ : ∃ l, x3 = sB l := ⟨_, (sB_data _).symm⟩
      have hl := setL_len hr
      simp [wts_ints] at hw
      have hi := setI hr (by omega)
      have hs := setS hr (by omega)
      refine ⟨nm ++ 123 :: (setL S ++ [125]), ⟨Is.of e20 (hi.mp fun n hd => ?_), Is.of e18 (hs.mp fun n hd => ?_)⟩, by simp [wts_ints]; omega⟩
      · simp (disch := (first | omega | (simp only [size_sB, List.length_append, List.length_cons, List.length_nil]; omega))) only [F20, nth_0, nth_3, nth_4, fld_agg, toInt_int, toStr_str, eqF, eqT, iff_true', iff_false', hd, Option.bind_some, setP, catB_sB, leT]
      · simp (disch := (first | omega | (simp only [size_sB, List.length_append, List.length_cons, List.length_nil]; omega))) only [F18, nth_0, nth_3, nth_4, fld_agg, toInt_int, toStr_str, eqF, eqT, iff_true', iff_false', hd, Option.bind_some, setP, catB_sB, leT]
    by_cases c3 : x0 = 3
    · obtain ⟨l, rfl, _, he⟩ := wf_slice (e := 44) (by kernel_rfl) h5
      simp at hw
      obtain ⟨T, hT, hk, hL⟩ := pickT (Q := TxOk) l fun q hq => ih (SizeOf.sizeOf q) (by have := size_mem hq; rw [← hN]; simp at this ⊢; omega) q rfl (he q hq) (by have := wt_mem hq; omega)
      have hjl := joinT_len T
      exact ⟨[40] ++ Lib.join T [32] ++ [41], ⟨kidsI c3 (by omega) hT hk (by omega), kidsS c3 (by omega) hT hk (by omega)⟩, by simp; omega⟩
    · refine ⟨[63], ⟨Is.of e20 (Evt.all fun n => ?_), Is.of e18 (Evt.all fun n => ?_)⟩, by simp⟩
      · simp (disch := omega) only [F20, nth_0, fld_agg, toInt_int, eqF, iff_false', bt63]
      · simp (disch := omega) only [F18, nth_0, fld_agg, toInt_int, eqF, iff_false', bt63]
theorem law {p : PV} (h : WfT Tryd.prog 44 p) : Rn 5 [p] [.bool true] := by
  have hsz := sz_17 h (x := 1048576) (by omega) (by omega)
  by_cases hneg : szR 1048576 p.wt < 0
  · refine Is.of e5 (hsz.mp fun n h1 => ?_)
    simp [F5, h1, ltT hneg]
  have hw : p.wt ≤ 1048576 := by have := mt (szR_neg (x := 1048576) (w := p.wt) (by omega)).2 hneg; omega
  have hto := to_19 h hw
  have heqa := eq_21 h
  obtain ⟨t, ⟨hi, hs⟩, _⟩ := stxT _ p rfl h hw
  refine Is.of e5 ((Evt.and (hsz.and (hto.and heqa)) (hi.and hs)).mp fun n h1 => ?_)
  obtain ⟨⟨h1, h2, h3⟩, h4, h5⟩ := h1
  have hge : 0 ≤ szR 1048576 p.wt := Int.not_lt.1 hneg
  simp (disch := omega) [F5, h1, h2, h3, h4, h5, ltF]
theorem pure_law (ps : List PV) (hl : ps.length = 1) (hwf : ∀ (j : Nat) t p, [44][j]? = some t → ps[j]? = some p → WfT Tryd.prog t p) : ∃ n, ev Tryd.prog sg n 5 ps = some [.bool true] := by
  obtain ⟨p, rfl⟩ := List.length_eq_one_iff.1 hl
  exact (law (hwf 0 44 p rfl rfl)).get
end Go.Proofs.YtjaboelhknoamaaDoor.GFnExactStxText
