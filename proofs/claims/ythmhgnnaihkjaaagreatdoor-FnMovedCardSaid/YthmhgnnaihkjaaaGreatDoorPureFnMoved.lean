/- What functions of the program and of the reference come to, for the law FnMoved. Each under the conditions that it names. -/
import Derived.Test.YthmhgnnaihkjaaaGreatDoorIFnMoved
namespace Go.Proofs.YthmhgnnaihkjaaaGreatDoor.GFnMoved
open Go Go.Rsc Go.Proofs.YthmhgnnaihkjaaaGreatDoor
set_option maxRecDepth 100000
set_option linter.unusedVariables false
set_option linter.unusedSimpArgs false
theorem eqlT (s : ByteArray) : cmpS BinOp.eql s s = true := by simp [cmpS]
theorem eqlF {l : List UInt8} (h : l ≠ []) : cmpS BinOp.eql (sB l) (⟨#[]⟩ : ByteArray) = false := by
  have e : (⟨#[]⟩ : ByteArray) = sB [] := rfl
  rw [e]
  simp [cmpS, sB, ByteArray.toList_mk, h]
def finB (W : List Int) (base next : Int) (R : List Int) : List Nat := bfs W (plcs W base next).length 0 (addAll [] R)
def tx (W : List Int) (base next : Int) (R : List Int) : List UInt8 := shapeB W (finB W base next R) R (finB W base next R)
def sz (W : List Int) (base next : Int) (R : List Int) : Nat := sumB W (finB W base next R)
theorem tx_ne (W : List Int) (base next : Int) (R : List Int) : tx W base next R ≠ [] := by simp [tx, shapeB]
structure HR (W : List Int) (half base next : Int) (R : List Int) : Prop where
  ok : rootsB W half base next R = true
  w : Rng W
  r : Rng R
  rl : R.length ≤ 1048576
section
variable {W R : List Int} {half base next : Int}
theorem HR.sok (h : HR W half base next R) : SOk W half base next (plcs W base next) ∧ (∀ x, x ∈ R → there (plcs W base next) x = true) ∧ heapB W half base next = true ∧ W.length ≤ 6000 := by
  have hcc := h.ok
  simp only [rootsB, Bool.and_eq_true] at hcc
  have hs := Go.Proofs.YthmhgnnaihkjaaaGreatDoor.GFnMoved.sok hcc.1
  exact ⟨hs, List.all_eq_true.1 hcc.2, hcc.1, hs.pre.rng.1⟩
theorem move1 (h : HR W half base next R) : ∃ W1 next1 R1, HR W1 half (half - base) next1 R1 ∧ tx W1 (half - base) next1 R1 = tx W base next R ∧ sz W1 (half - base) next1 R1 = sz W base next R ∧ next1 = half - base + sz W base next R ∧ W1.length ≤ 6000 ∧ R1.length = R.length ∧
    Rn 6 [heapV W half base next, words R] [heapV W1 half (half - base) next1, words R1] ∧ Rn 7 [heapV W half base next, words R] [heapV W1 half (half - base) next1, words R1] := by
  obtain ⟨hs, hRP, hh, hWl⟩ := h.sok
  obtain ⟨f1, f2, f3, f4⟩ := fin_ok hs hRP
  have hW : W.length ≤ 1048576 := by omega
  have ci := collectI hs hW hRP h.rl rfl f1 f2 f3 h.ok
  obtain ⟨fin, e, _, _, _, cs⟩ := collectS hs hRP h.rl
  have rs := rightS (half := half) (base := base) (next := next) hW h.w h.rl
  have er : (heapB W half base next && allP (plcs W base next) R) = rootsB W half base next R := rfl
  rw [er, h.ok] at rs
  obtain ⟨m1, m2⟩ := moved_ok hs f1 f2 rfl
  have m3 := moved_fin hs hRP rfl f1 f2 f3 rfl
  have hfd : bfs W (plcs W base next).length 0 (addAll [] R) = finB W base next R := rfl
  rw [e] at cs
  rw [hfd] at ci cs f1 f2 f3 m1 m2 m3
  obtain ⟨g1, g2, g3, g4⟩ := hs.pre
  have hbb : (((half - base).toNat : Nat) : Int) = half - base := by omega
  have hs0 := sum_sub (W := W) f1.nodup f1.sub
  have hs1 := hs.sum
  generalize hb : (half - base).toNat = b at *
  generalize hf : finB W base next R = fin at *
  have hsz : sz W base next R = sumB W fin := by unfold sz; rw [hf]
  have htx : tx W base next R = shapeB W fin R fin := by unfold tx; rw [hf]
  have hal : (List.replicate b (0 : Int) ++ blkF W b fin fin).length = b + sumB W fin := by simp [blkF_len]
  have htv : toV (List.replicate b 0 ++ blkF W b fin fin) (2 * half).toNat half (half - base) = heapV (mvW W b fin (2 * half).toNat) half (half - base) ((b + sumB W fin : Nat) : Int) := by
    unfold toV mvW zw
    rw [hal]
  rw [htv] at ci cs
  have hml : (mvW W b fin (2 * half).toNat).length = (2 * half).toNat := zw_len (by omega)
  have hfn : finB (mvW W b fin (2 * half).toNat) (half - base) ((b + sumB W fin : Nat) : Int) (R.map (mv W b fin)) = newP W b fin := by
    unfold finB
    rw [m2, m3]
  have hmr : ∀ x, inW fin x → (-9223372036854775808 ≤ x ∧ x < 9223372036854775808) → -9223372036854775808 ≤ mv W b fin x ∧ mv W b fin x < 9223372036854775808 := fun x hx hr => mv_rng (by omega) hr hx
  refine ⟨mvW W b fin (2 * half).toNat, ((b + sumB W fin : Nat) : Int), R.map (mv W b fin), ⟨?_, ?_, ?_, ?_⟩, ?_, ?_, ?_, ?_, ?_, ci, Is.of e7 (rs.mp2 cs fun n q1 q2 => ?_)⟩
  · unfold rootsB allP
    rw [m1, m2]
    simp only [Bool.true_and, List.all_eq_true]
    intro x hx
    obtain ⟨y, hy, rfl⟩ := List.mem_map.1 hx
    exact mv_there (f3 y hy) (hRP y hy)
  · intro w hw
    unfold mvW zw at hw
    rcases List.mem_append.1 hw with hw | hw
    · rcases List.mem_append.1 hw with hw | hw
      · rw [(List.mem_replicate.1 hw).2]; decide
      · obtain ⟨p, hp, hw⟩ := List.mem_flatMap.1 hw
        rcases List.mem_cons.1 hw with rfl | hw
        · exact gw_big h.w _
        · obtain ⟨x, hx, rfl⟩ := List.mem_map.1 hw
          exact hmr x (f2 p hp x hx) (kids_rng h.w p x hx)
    · rw [(List.mem_replicate.1 hw).2]; decide
  · intro w hw
    obtain ⟨x, hx, rfl⟩ := List.mem_map.1 hw
    exact hmr x (f3 x hx) (h.r x hx)
  · rw [List.length_map]; exact h.rl
  · unfold tx
    rw [hfn, shape_mv _ f2 f3, ← htx]
    rfl
  · unfold sz
    rw [hfn, sum_mv, ← hsz]
    rfl
  · rw [hsz]; omega
  · omega
  · rw [List.length_map]
  · simp only [F7, nth_0, nth_1, q1, q2, Option.bind_some, toBool_bool, Bool.not_true, iff_false']
theorem shape1 (h : HR W half base next R) : Rn 14 [heapV W half base next, words R] [.str (sB (tx W base next R))] := by
  obtain ⟨hs, hRP, hh, hWl⟩ := h.sok
  obtain ⟨f1, f2, f3, f4⟩ := fin_ok hs hRP
  exact shapeI hs (by omega) h.w hRP h.r h.rl rfl f1 f4 f2 f3 h.ok
theorem room1 (h : HR W half base next R) : Rn 18 [heapV W half base next] [.int (base + half - next)] := by
  obtain ⟨hs, hRP, hh, hWl⟩ := h.sok
  obtain ⟨g1, g2, g3, g4⟩ := hs.pre
  have hi := heapI (half := half) (base := base) (next := next) (W := W) (by omega)
  rw [hh] at hi
  have w1 : IntKind.i64.wrap (base + half) = base + half := wrap64 (by omega) (by omega)
  have w2 : IntKind.i64.wrap (base + half - next) = base + half - next := wrap64 (by omega) (by omega)
  refine Is.of e18 (hi.mp fun n q => ?_)
  simp only [F18, nth_0, nth_1, nth_2, nth_3, fld_agg, toInt_int, q, Option.bind_some, toBool_bool, Bool.not_true, iff_false', w1, w2]
theorem block1 (h : HR W half base next R) {p : Nat} (hp : p ∈ plcs W base next) : ∃ f t o, Rn 16 [heapV W half base next, .int p] [f, t, words (kids W p), o] := by
  obtain ⟨hs, hRP, hh, hWl⟩ := h.sok
  have hi := heapI (half := half) (base := base) (next := next) (W := W) (by omega)
  rw [hh] at hi
  have ha := atI (hok (W := W) (half := half) (base := base) (next := next) (by omega) h.w hh) (p : Int)
  have hin : inP (plcs W base next) (p : Int) = true := inP_iff.2 ⟨p, hp, rfl⟩
  rw [hin] at ha
  simp only [if_true, Int.toNat_natCast] at ha
  rw [kidsW (hs.mem p hp).1] at ha
  exact ⟨_, _, _, Is.of e16 (hi.mp2 ha fun n q1 q2 => by
    simp only [F16, nth_0, nth_1, nth_2, nth_3, q1, q2, Option.bind_some, toBool_bool, Bool.not_true, iff_false']
    rfl)⟩
theorem sizeI (h : HR W half base next R) (y2 y3 y5 : PV) {X : List Nat} (hX : ∀ p, p ∈ X → p ∈ plcs W base next) (hXl : X.length ≤ 3000) (hXs : sumB W X ≤ 3000) :
    Evt fun n => loopEv (L3_0 (ev Tryz.prog sg n) n) n [.int 0, nats X, y2, y3, .int 0, y5, heapV W half base next] = some (.x 0, [y2, y3, .int (sumB W X : Nat), y5, heapV W half base next]) := by
  have hnl := natsLen X
  have h1 := loop_run (body := fun n => L3_0 (ev Tryz.prog sg n) n) (fun k => [.int k, nats X, y2, y3, .int (sumB W (X.take k) : Nat), y5, heapV W half base next]) X.length (e := .x 0) (res := [y2, y3, .int (sumB W X : Nat), y5, heapV W half base next]) (fun k hk => ?_) (Evt.all fun n => ?_) (by decide)
  · exact h1
  · obtain ⟨f, t, o, hb⟩ := block1 h (hX _ (gp_mem hk))
    have hn := nth_gp hk
    have hs := sum_take_drop W X k
    rw [drop_gp hk] at hs
    simp only [sumB] at hs
    have hss : sumB W (X.take (k + 1)) = sumB W (X.take k) + (1 + mny (gw W (gp X k))) := by rw [take_gp hk, sumB_append]; simp [sumB]
    have hkl := kids_len W (gp X k)
    have c1 : ltI (k : Int) X.length = true := ltT (by omega)
    have c2 : geI (k : Int) 0 = true := geT (by omega)
    have w1 : IntKind.i64.wrap ((k : Int) + 1) = ((k + 1 : Nat) : Int) := by rw [wrap64 (by omega) (by omega)]; omega
    have hk' : ((k : Int)).toNat = k := by omega
    have w2 : IntKind.i64.wrap (IntKind.i64.wrap (((sumB W (X.take k) : Nat) : Int) + 1) + (mny (gw W (gp X k)) : Int)) = ((sumB W (X.take (k + 1)) : Nat) : Int) := by
      rw [wrap64 (x := ((sumB W (X.take k) : Nat) : Int) + 1) (by omega) (by omega), wrap64 (by omega) (by omega), hss]; omega
    refine hb.mp fun n q => ?_
    simp only [L3_0, nth_0, nth_1, nth_2, nth_3, nth_4, nth_5, nth_6, toInt_int, toList_list, hnl, c1, c2, iff_true', hk', hn, q, Option.bind_some, wordsLen, hkl, w1, w2]
  · rw [List.take_length]
    have c1 : ltI (X.length : Int) X.length = false := ltF (by omega)
    simp only [L3_0, nth_0, nth_1, nth_2, nth_3, nth_4, nth_5, nth_6, toInt_int, toList_list, hnl, c1, iff_false']
end
/-- what both give, of whatever is drawn -/
theorem shapeBoth {W R : List Int} {half base next : Int} (hW : W.length ≤ 1048576) (hW2 : Rng W) (hR : R.length ≤ 1048576) (hR2 : Rng R) :
    ∃ s, Rn 14 [heapV W half base next, words R] [.str s] ∧ Rn 15 [heapV W half base next, words R] [.str s] ∧ (rootsB W half base next R = false → s = ⟨#[]⟩) := by
  have ri := rootsI (half := half) (base := base) (next := next) hW hR
  have rs := rightS (half := half) (base := base) (next := next) hW hW2 hR
  have er : (heapB W half base next && allP (plcs W base next) R) = rootsB W half base next R := rfl
  rw [er] at rs
  cases hc : rootsB W half base next R with
  | false =>
    rw [hc] at ri rs
    refine ⟨⟨#[]⟩, Is.of e14 (ri.mp fun n q => ?_), Is.of e15 (rs.mp fun n q => ?_), fun _ => rfl⟩
    · simp only [F14, nth_0, nth_1, q, Option.bind_some, toBool_bool, Bool.not_false, iff_true']
    · simp only [F15, nth_0, nth_1, q, Option.bind_some, toBool_bool, Bool.not_false, iff_true']
  | true =>
    have h : HR W half base next R := ⟨hc, hW2, hR2, hR⟩
    obtain ⟨hs, hRP, hh, hWl⟩ := h.sok
    obtain ⟨f1, f2, f3, f4⟩ := fin_ok hs hRP
    rw [hc] at rs
    exact ⟨_, shape1 h, shapeS hs hW hW2 hRP hR2 hR rfl f1 f4 f2 f3 rs, fun e => by cases e⟩
theorem collFalse {W R : List Int} {half base next : Int} (hW : W.length ≤ 1048576) (hW2 : Rng W) (hR : R.length ≤ 1048576) (hc : rootsB W half base next R = false) :
    Rn 6 [heapV W half base next, words R] [heapV W half base next, words R] ∧ Rn 7 [heapV W half base next, words R] [heapV W half base next, words R] := by
  have ri := rootsI (half := half) (base := base) (next := next) hW hR
  have rs := rightS (half := half) (base := base) (next := next) hW hW2 hR
  have er : (heapB W half base next && allP (plcs W base next) R) = rootsB W half base next R := rfl
  rw [er, hc] at rs
  rw [hc] at ri
  have hl := wordsLen R
  constructor
  · refine Is.of e6 (ri.mp3 (hcopyI (half := half) (base := base) (next := next) hW) (copyI (l := R.map PV.int) (by omega)) fun n q1 q2 q3 => ?_)
    simp only [F6, nth_0, nth_1, q1, q2, q3, Option.bind_some, toBool_bool, Bool.not_false, iff_true']
  · refine Is.of e7 (rs.mp2 (hcopyS (half := half) (base := base) (next := next) hW) fun n q1 q2 => ?_)
    have c1 : leN (([] : List PV).length + (R.map PV.int).length) 17592186044416 = true := leNT (by simp only [List.length_nil]; omega)
    simp only [F7, nth_0, nth_1, q1, q2, Option.bind_some, toBool_bool, Bool.not_false, iff_true', toList_list, c1, List.nil_append]
theorem sameN {X : List Nat} (h : X.length ≤ 1048576) : Rn 9 [nats X, nats X] [.bool true] := by
  have e : nats X = words (X.map fun p : Nat => (p : Int)) := by simp [List.map_map]
  rw [e]
  exact sameI (by simpa using h)
theorem law {bs : List PV} (hb : Bs bs) : Rn 3 [.list bs] [.bool true] := by
  have hbl := hb.len
  have rb : Rn 4 [.list bs] [.bool false] := Is.of e4 (Evt.all fun n => by simp (disch := omega) [F4, gtF])
  obtain ⟨W, half, base, next, R, hW, hR, hRl, r1⟩ := drawCollect hb
  obtain ⟨Wx, hx, bx, nx, Rx, hWx, hRx, hRxl, r8⟩ := drawReach hb
  obtain ⟨Wy, hy, by_, ny, Ry, hWy, hRy, hRyl, r9⟩ := drawShape hb
  have l1 := hW.l2
  have l2 := hWx.l2
  have l3 := hWy.l2
  obtain ⟨ri, rsp, rl, _⟩ := reachIS (half := hx) (base := bx) (next := nx) (R := Rx) (by omega) hWx.big (by omega)
  have rx := sameN (X := reachB Wx hx bx nx Rx) (by omega)
  obtain ⟨sy, si, ss, _⟩ := shapeBoth (half := hy) (base := by_) (next := ny) (W := Wy) (R := Ry) (by omega) hWy.big (by omega) hRy
  generalize nats (reachB Wx hx bx nx Rx) = vx at *
  generalize heapV Wx hx bx nx = hvx at *
  generalize words Rx = wrx at *
  generalize heapV Wy hy by_ ny = hvy at *
  generalize words Ry = wry at *
  have eT : ∀ x : Int, eqI x x = true := fun x => eqT rfl
  cases hc : rootsB W half base next R with
  | false =>
    obtain ⟨ci, cs⟩ := collFalse (half := half) (base := base) (next := next) (by omega) hW.big (by omega) hc
    obtain ⟨s, sh, _, hs⟩ := shapeBoth (half := half) (base := base) (next := next) (W := W) (R := R) (by omega) hW.big (by omega) hR
    rw [hs hc] at sh
    have q4 := sameH (W := W) (half := half) (base := base) (next := next) (by omega)
    have q5 := sameI (R := R) (by omega)
    have ce := eqlT (⟨#[]⟩ : ByteArray)
    generalize heapV W half base next = h0 at *
    generalize words R = w0 at *
    refine Is.of e3 (((rb.and r1).and (ci.and cs)).mp4 ((q4.and q5).and (r8.and r9)) ((ri.and rsp).and rx) ((si.and ss).and sh) fun n ⟨⟨a1, a2⟩, a3, a4⟩ ⟨⟨a5, a6⟩, a7, a8⟩ ⟨⟨b1, b2⟩, b3⟩ ⟨⟨b4, b5⟩, b6⟩ => ?_)
    simp [F3, a1, a2, a3, a4, a5, a6, a7, a8, b1, b2, b3, b4, b5, b6, ce, isB_unit]
  | true =>
    have h : HR W half base next R := ⟨hc, hW.big, hR, by omega⟩
    obtain ⟨W1, n1, R1, h1, t1, z1, e1, lW1, lR1, ci, cs⟩ := move1 h
    obtain ⟨W2, n2, R2, h2, t2, z2, e2, lW2, lR2, ci2, cs2⟩ := move1 h1
    have sh := shape1 h
    have sh1 := shape1 h1
    have sh2 := shape1 h2
    rw [t1] at sh1 t2
    rw [t2] at sh2
    rw [show half - (half - base) = base by omega] at ci2 sh2 h2 e2
    have rm := room1 h
    have rm1 := room1 h1
    obtain ⟨hs, hRP, hh, hWl⟩ := h.sok
    obtain ⟨_, _, hh1, _⟩ := h1.sok
    have hi1 := heapI (half := half) (base := half - base) (next := n1) (W := W1) (by omega)
    rw [hh1] at hi1
    obtain ⟨f1, f2, f3, f4⟩ := fin_ok hs hRP
    obtain ⟨rr, _, rrl, _⟩ := reachIS (half := half) (base := base) (next := next) (R := R) (W := W) (by omega) hW.big (by omega)
    have eR : reachB W half base next R = insAll (finB W base next R) := by simp [reachB, hc, finB]
    obtain ⟨p1, _⟩ := foldIns (finB W base next R) [] List.Pairwise.nil
    rw [List.nil_append] at p1
    have ps : sumB W (reachB W half base next R) = sz W base next R := by
      rw [eR]
      exact sum_perm W p1
    have hs0 := sum_sub (W := W) f1.nodup f1.sub
    have hs1 := hs.sum
    obtain ⟨g1, g2, g3, g4⟩ := hs.pre
    have hpl := hs.pre.rng
    have hcc := (heapB_pre hh).1
    simp only [Bool.and_eq_true] at hcc
    have hsp := sum_plc (W := W) (next := next.toNat) (k := 3000) (at_ := base.toNat) (by omega) (by omega) hcc.2
    have hsp2 : sz W base next R ≤ sumB W (plcs W base next) := hs0
    have hsp3 : base.toNat + sumB W (plcs W base next) = next.toNat := hsp
    have sl := sizeI h (words R1) (.str (sB (tx W base next R))) (heapV W1 half (half - base) n1) (X := reachB W half base next R) (fun p hp => f1.sub p (by
      rw [eR] at hp
      exact p1.subset hp)) rrl (by rw [ps]; omega)
    rw [ps] at sl
    have q4 := sameH (W := W1) (half := half) (base := half - base) (next := n1) (by omega)
    have q5 := sameI (R := R1) (by omega)
    have cn := eqlF (tx_ne W base next R)
    have cs1 := eqlT (sB (tx W base next R))
    have fa2 : (heapV W1 half (half - base) n1).fld 2 = .int (half - base) := rfl
    have fa3 : (heapV W1 half (half - base) n1).fld 3 = .int n1 := rfl
    have fh2 : (heapV W half base next).fld 2 = .int base := rfl
    have fc2 : (heapV W2 half base n2).fld 2 = .int base := rfl
    have fc3 : (heapV W2 half base n2).fld 3 = .int n2 := rfl
    have w1 : IntKind.i64.wrap (n1 - (half - base)) = sz W base next R := by rw [wrap64 (by omega) (by omega)]; omega
    have w2 : IntKind.i64.wrap (n2 - base) = sz W base next R := by rw [wrap64 (by omega) (by omega)]; omega
    have cr : geI (half - base + half - n1) (base + half - next) = true := geT (by omega)
    generalize heapV W1 half (half - base) n1 = ha at *
    generalize heapV W2 half base n2 = h2v at *
    generalize heapV W half base next = h0 at *
    generalize words R = w0 at *
    generalize words R1 = w1v at *
    generalize words R2 = w2v at *
    generalize nats (reachB W half base next R) = vr at *
    generalize sB (tx W base next R) = st at *
    refine Is.of e3 (((rb.and r1).and (ci.and cs)).mp4 (((q4.and q5).and (r8.and r9)).and ((ri.and rsp).and rx)) (((si.and ss).and (sh.and sh1)).and ((sh2.and rr).and sl)) ((ci2.and hi1).and (rm.and rm1)) fun n ⟨⟨a1, a2⟩, a3, a4⟩ ⟨⟨⟨a5, a6⟩, a7, a8⟩, ⟨b1, b2⟩, b3⟩ ⟨⟨⟨b4, b5⟩, b6, b7⟩, ⟨b8, b9⟩, d1⟩ ⟨⟨d2, d3⟩, d4, d5⟩ => ?_)
    simp [F3, a1, a2, a3, a4, a5, a6, a7, a8, b1, b2, b3, b4, b5, b6, b7, b8, b9, d1, d2, d3, d4, d5, cn, cs1, fa2, fa3, fh2, fc2, fc3, w1, w2, eT, cr, isB_unit]
theorem pure_law (ps : List PV) (hl : ps.length = 1) (hwf : ∀ (j : Nat) t p, [22][j]? = some t → ps[j]? = some p → WfT Tryz.prog t p) : ∃ n, ev Tryz.prog sg n 3 ps = some [.bool true] := by
  obtain ⟨p, rfl⟩ := List.length_eq_one_iff.1 hl
  obtain ⟨bs, rfl, hbl, hbe⟩ := wf_slice (e := 5) (by kernel_rfl) (hwf 0 22 p rfl rfl)
  by_cases hbig : bs.length ≤ 1048576
  · refine (law ⟨fun q hq => ?_, hbig⟩).get
    obtain ⟨x, e, _⟩ := wf_int (k := .u8) (by kernel_rfl) (hbe q hq)
    exact ⟨x, e⟩
  · have rb : Rn 4 [.list bs] [.bool true] := Is.of e4 (Evt.all fun n => by simp (disch := omega) [F4, gtT])
    have : Rn 3 [.list bs] [.bool true] := Is.of e3 (rb.mp fun n q => by simp [F3, q])
    exact this.get
end Go.Proofs.YthmhgnnaihkjaaaGreatDoor.GFnMoved
