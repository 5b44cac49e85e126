/- What functions of the program and of the reference come to, for the law FnMoved. Each under the conditions that it names. -/
import Derived.Test.YthmhgnnaihkjaaaGreatDoorEFnMoved
namespace Go.Proofs.YthmhgnnaihkjaaaGreatDoor.GFnMoved
open Go Go.Rsc Go.Proofs.YthmhgnnaihkjaaaGreatDoor
set_option maxRecDepth 100000
set_option linter.unusedVariables false
set_option linter.unusedSimpArgs false
/-! ### What is drawn -/
theorem and255 (x : Int) : arith .and .i64 x 255 = x % 256 := by
  have e2 : (BitVec.ofInt 64 (255 : Int)).toNat = 2 ^ 8 - 1 := by decide
  show IntKind.i64.wrap ((BitVec.ofInt 64 x &&& BitVec.ofInt 64 (255 : Int)).toNat : Int) = _
  rw [BitVec.toNat_and, e2, Nat.and_two_pow_sub_one_eq_mod _ 8, BitVec.toNat_ofInt, wrap64 (by omega) (by omega)]
  omega
abbrev curV (bs : List PV) (i h : Int) : PV := .agg [.list bs, .int i, .int h]
structure Bs (bs : List PV) : Prop where
  int : ∀ q, q ∈ bs → ∃ x : Int, q = .int x
  len : bs.length ≤ 1048576
def CurOk (c : PV) : Prop := ∃ bs i h, c = curV bs i h ∧ Bs bs ∧ 0 ≤ i ∧ i ≤ bs.length
theorem byteS {c : PV} (hc : CurOk c) : ∃ c' x, CurOk c' ∧ 0 ≤ x ∧ x < 256 ∧ Rn 50 [c] [.int x, c'] := by
  obtain ⟨bs, i, h, rfl, hb, h0, h1⟩ := hc
  have hbl := hb.len
  generalize hh : IntKind.i64.wrap (IntKind.i64.wrap (h * 6364136223846793005) + 1442695040888963407) = h'
  by_cases hi : i < bs.length
  · obtain ⟨y, hy⟩ := hb.int _ (nth_mem (l := bs) (i := i.toNat) (by omega))
    refine ⟨curV bs (i + 1) h', IntKind.i64.wrap (arith .xor .i64 (arith .shr .i64 h' 33) (arith .shr .i64 h' 45) % 256 + IntKind.i64.wrap y) % 256, ⟨bs, i + 1, _, rfl, hb, by omega, by omega⟩, by omega, by omega, Is.of e50 (Evt.all fun n => ?_)⟩
    simp (disch := omega) [F50, ltT, geT, and255, hy, hh, wrap64 (x := i + 1)]
  · refine ⟨curV bs i h', arith .xor .i64 (arith .shr .i64 h' 33) (arith .shr .i64 h' 45) % 256, ⟨bs, i, _, rfl, hb, by omega, by omega⟩, by omega, by omega, Is.of e50 (Evt.all fun n => ?_)⟩
    simp (disch := omega) [F50, ltF, geT, and255, hh]
theorem tmod_lt {x n : Int} (h0 : 0 ≤ x) (h1 : 0 < n) : 0 ≤ arith .rem .i64 x n ∧ arith .rem .i64 x n < n := by
  show 0 ≤ x.tmod n ∧ x.tmod n < n
  rw [Int.tmod_eq_emod_of_nonneg h0]
  exact ⟨Int.emod_nonneg _ (by omega), Int.emod_lt_of_pos _ h1⟩
theorem belowS {c : PV} (hc : CurOk c) {n : Int} (hn : 0 < n) : ∃ c' x, CurOk c' ∧ 0 ≤ x ∧ x < n ∧ Rn 21 [c, .int n] [.int x, c'] := by
  obtain ⟨c1, x1, k1, a1, b1, r1⟩ := byteS hc
  by_cases h : n ≤ 256
  · have := tmod_lt a1 hn
    refine ⟨c1, _, k1, this.1, this.2, Is.of e21 (r1.mp fun N q => ?_)⟩
    simp (disch := omega) [F21, leT, leF, q, neT]
  · obtain ⟨c2, x2, k2, a2, b2, r2⟩ := byteS k1
    obtain ⟨c3, x3, k3, a3, b3, r3⟩ := byteS k2
    obtain ⟨c4, x4, k4, a4, b4, r4⟩ := byteS k3
    have := tmod_lt (x := x1 * 16777216 + x2 * 65536 + x3 * 256 + x4) (by omega) hn
    refine ⟨c4, _, k4, this.1, this.2, Is.of e21 ((r1.and r2).mp3 r3 r4 fun N ⟨q1, q2⟩ q3 q4 => ?_)⟩
    simp (disch := omega) [F21, leF, q1, q2, q3, q4, neT, wrap64]
theorem onceS {c : PV} (hc : CurOk c) {n : Int} (hn : 0 < n) : ∃ c' b, CurOk c' ∧ Rn 72 [c, .int n] [.bool b, c'] := by
  obtain ⟨c1, x1, k1, a1, b1, r1⟩ := belowS hc hn
  exact ⟨c1, eqI x1 0, k1, Is.of e72 (r1.mp fun N q => by simp [F72, q])⟩
theorem pickS {c : PV} (hc : CurOk c) {V : List Int} (hV : 0 < V.length) : ∃ c' x, CurOk c' ∧ x ∈ V ∧ Rn 4145 [c, words V] [.int x, c', words V] := by
  obtain ⟨c1, x1, k1, a1, b1, r1⟩ := belowS hc (n := V.length) (by omega)
  have hl := wordsLen V
  have hn := nth_gw (W := V) (i := x1.toNat) (by omega)
  refine ⟨c1, gw V x1.toNat, k1, gw_mem (by omega), Is.of e4145 (r1.mp fun N q => ?_)⟩
  simp (disch := omega) [F4145, hl, q, geT, ltT, hn]
theorem newCur {bs : List PV} (hb : Bs bs) : ∃ c, CurOk c ∧ Rn 19 [.list bs] [c] := by
  have hbl := hb.len
  have key : ∀ (j i : Nat) (h : Int), i + j = 4000 → i ≤ bs.length → ∃ h', Evt fun n => ∀ m, j + 1 ≤ m → loopEv (L19_0 (ev Tryz.prog sg n) n) m [.int i, .list bs, .int h] = some (.x 0, [.list bs, .int h']) := by
    intro j
    induction j with
    | zero =>
      intro i h hi _
      refine ⟨h, Evt.all fun n m hm => ?_⟩
      obtain ⟨m, rfl⟩ : ∃ m', m = m' + 1 := ⟨m - 1, by omega⟩
      have hB : L19_0 (ev Tryz.prog sg n) n [.int i, .list bs, .int h] = some (.x 0, [.list bs, .int h]) := by
        by_cases hl : (i : Int) < bs.length
        · simp (disch := omega) [L19_0, ltT hl, ltF]
        · simp (disch := omega) [L19_0, ltF]
      simp only [loopEv, hB, thenN_x, passE_eq]
    | succ j ih =>
      intro i h hi hil
      by_cases hl : i < bs.length
      · obtain ⟨y, hy⟩ := hb.int _ (nth_mem (l := bs) (i := i) hl)
        obtain ⟨h', hh⟩ := ih (i + 1) (arith .and .i64 (IntKind.i64.wrap (IntKind.i64.wrap (IntKind.i64.wrap (h * 131) + IntKind.i64.wrap y) + 7)) 1073741823) (by omega) (by omega)
        refine ⟨h', hh.mp fun n q m hm => ?_⟩
        obtain ⟨m, rfl⟩ : ∃ m', m = m' + 1 := ⟨m - 1, by omega⟩
        have hB : L19_0 (ev Tryz.prog sg n) n [.int i, .list bs, .int h] = some (.n, [.int (i + 1 : Nat), .list bs, .int (arith .and .i64 (IntKind.i64.wrap (IntKind.i64.wrap (IntKind.i64.wrap (h * 131) + IntKind.i64.wrap y) + 7)) 1073741823)]) := by
          simp (disch := omega) [L19_0, ltT, geT, hy, wrap64 (x := (i : Int) + 1)]
        simp only [loopEv, hB, thenN_n]
        exact q m (by omega)
      · refine ⟨h, Evt.all fun n m hm => ?_⟩
        obtain ⟨m, rfl⟩ : ∃ m', m = m' + 1 := ⟨m - 1, by omega⟩
        have hB : L19_0 (ev Tryz.prog sg n) n [.int i, .list bs, .int h] = some (.x 0, [.list bs, .int h]) := by
          simp (disch := omega) [L19_0, ltF]
        simp only [loopEv, hB, thenN_x, passE_eq]
  obtain ⟨h', hh⟩ := key 4000 0 (IntKind.i64.wrap (24659 + bs.length)) (by omega) (by omega)
  refine ⟨curV bs 0 h', ⟨bs, 0, h', rfl, hb, by omega, by omega⟩, Is.of e19 (hh.mp2 (Evt.ge 4001) fun n q1 q2 => ?_)⟩
  have q1 := q1 n q2
  simp only [show ((0 : Nat) : Int) = 0 from rfl] at q1
  simp [F19, q1]
/-! ### A block is put -/
def hdW (fn : Bool) (tag : Int) (len : Nat) : Int := 2 * (2 * (64 * tag + len) + (if fn then 1 else 0)) + 1
def putK (W : List Int) (nx : Nat) (hd : Int) (K : List Int) (k : Nat) : List Int := W.take nx ++ hd :: (K.take k ++ W.drop (nx + 1 + k))
def putW (W : List Int) (nx : Nat) (hd : Int) (K : List Int) : List Int := putK W nx hd K K.length
theorem putK_len {W : List Int} {nx : Nat} {hd : Int} {K : List Int} {k : Nat} (h : nx + 1 + k ≤ W.length) (hk : k ≤ K.length) : (putK W nx hd K k).length = W.length := by
  simp [putK]
  omega
theorem set_put {W : List Int} {nx : Nat} {hd : Int} {K : List Int} (h : nx < W.length) : W.set nx hd = putK W nx hd K 0 := by
  rw [List.set_eq_take_append_cons_drop, if_pos h]
  simp [putK]
theorem put_step {W : List Int} {nx : Nat} {hd : Int} {K : List Int} {k : Nat} (h : nx + 1 + k < W.length) (hk : k < K.length) : (putK W nx hd K k).set (nx + 1 + k) (gw K k) = putK W nx hd K (k + 1) := by
  have e1 : W.drop (nx + 1 + k) = gw W (nx + 1 + k) :: W.drop (nx + 1 + (k + 1)) := drop_gw (R := W) h
  have e2 : K.take (k + 1) = K.take k ++ [gw K k] := by
    rw [List.take_add_one, List.getElem?_eq_getElem hk]
    simp [gw, List.getD_eq_getElem?_getD, hk]
  unfold putK
  rw [e1, e2]
  have hl : (W.take nx ++ hd :: K.take k).length = nx + 1 + k := by simp; omega
  have h3 : ∀ x : Int, W.take nx ++ hd :: (K.take k ++ x :: W.drop (nx + 1 + (k + 1))) = (W.take nx ++ hd :: K.take k) ++ x :: W.drop (nx + 1 + (k + 1)) := fun x => by simp
  rw [h3]
  rw [List.set_append_right _ _ (by omega), hl, Nat.sub_self]
  simp
theorem splice_put {W : List Int} {nx : Nat} {hd : Int} {K : List Int} (h : nx + 1 + K.length ≤ W.length) : spliceL ((W.set nx hd).map PV.int) (nx + 1) (min K.length (W.length - (nx + 1))) (K.map PV.int) = (putW W nx hd K).map PV.int := by
  rw [Nat.min_eq_left (by omega), List.set_eq_take_append_cons_drop, if_pos (by omega)]
  unfold spliceL putW putK
  have hl : ((W.take nx ++ [hd]).map PV.int).length = nx + 1 := by simp; omega
  have e : (W.take nx ++ hd :: W.drop (nx + 1)).map PV.int = (W.take nx ++ [hd]).map PV.int ++ (W.drop (nx + 1)).map PV.int := by simp
  rw [e, List.take_left' hl, List.drop_append, hl, List.drop_eq_nil_of_le (by omega)]
  have ht : List.take K.length (K.map PV.int) = K.map PV.int := List.take_of_length_le (by simp)
  simp [List.map_drop, Nat.add_assoc, ht]
theorem gw_big {W : List Int} (h : ∀ w, w ∈ W → -9223372036854775808 ≤ w ∧ w < 9223372036854775808) (i : Nat) : -9223372036854775808 ≤ gw W i ∧ gw W i < 9223372036854775808 := by
  by_cases hi : i < W.length
  · exact h _ (gw_mem hi)
  · have : gw W i = 0 := by unfold gw; simp [List.getD_eq_getElem?_getD, List.getElem?_eq_none (Nat.le_of_not_lt hi)]
    rw [this]; decide
abbrev Rng (W : List Int) : Prop := ∀ w, w ∈ W → -9223372036854775808 ≤ w ∧ w < 9223372036854775808
theorem putW_rng {W K : List Int} {nx : Nat} {hd : Int} (hW : Rng W) (hK : Rng K) (hh : -9223372036854775808 ≤ hd ∧ hd < 9223372036854775808) : Rng (putW W nx hd K) := fun w hw => by
  unfold putW putK at hw
  simp only [List.mem_append, List.mem_cons] at hw
  rcases hw with hw | rfl | hw | hw
  · exact hW w (List.mem_of_mem_take hw)
  · exact hh
  · exact hK w (List.mem_of_mem_take hw)
  · exact hW w (List.mem_of_mem_drop hw)
def allocOk (W : List Int) (half base next : Int) (fn : Bool) (tag : Int) (K : List Int) : Bool :=
  heapB W half base next && (okR tag 0 3000 && (leI K.length 20 && (ltI K.length (base + half - next) && heapB (putW W next.toNat (hdW fn tag K.length) K) half base (next + 1 + K.length))))
def allocR (W : List Int) (half base next : Int) (fn : Bool) (tag : Int) (K : List Int) : List PV :=
  if allocOk W half base next fn tag K then [heapV (putW W next.toNat (hdW fn tag K.length) K) half base (next + 1 + K.length), .int next, .bool true] else [heapV W half base next, .int 0, .bool false]
section
variable {W K : List Int} {half base next tag : Int} {fn : Bool}
theorem hdW_rng (ht : 0 ≤ tag ∧ tag ≤ 3000) (hk : K.length ≤ 20) : 0 ≤ hdW fn tag K.length ∧ hdW fn tag K.length < 1000000 := by
  unfold hdW
  cases fn <;> simp <;> omega
theorem headS (ht : 0 ≤ tag ∧ tag ≤ 3000) (hk : K.length ≤ 20) : Rn 99 [.bool fn, .int tag, .int K.length] [.int (hdW fn tag K.length)] := by
  have hb : Rn 105 [.bool fn] [.int (if fn then 1 else 0)] := Is.of e105 (Evt.all fun n => by cases fn <;> simp [F105])
  refine Is.of e99 (hb.mp fun n q => ?_)
  unfold hdW
  cases fn <;> simp at q <;> simp (disch := omega) [F99, q, wrap64]
theorem putS (hp : Pre W half base next) (ht : 0 ≤ tag ∧ tag ≤ 3000) (hk : K.length ≤ 20) : Rn 91 [heapV W half base next, .bool fn, .int tag, words K] (if ltI K.length (base + half - next) then [heapV (putW W next.toNat (hdW fn tag K.length) K) half base (next + 1 + K.length), .int next, .bool true] else [heapV W half base next, .int 0, .bool false]) := by
  have hr := hp.rng
  obtain ⟨g1, g2, g3, g4⟩ := hp
  have hl := wordsLen W
  have hkl := wordsLen K
  have w1 : IntKind.i64.wrap (IntKind.i64.wrap (base + half) - next) = base + half - next := by rw [wrap64 (x := base + half) (by omega) (by omega), wrap64 (by omega) (by omega)]
  by_cases hc : (K.length : Int) < base + half - next
  rotate_left
  · rw [ltF (by omega)]
    refine Is.of e91 (Evt.all fun n => ?_)
    simp (disch := omega) [F91, w1, hkl, geT]
  rw [ltT hc]
  generalize hnx : next.toNat = nx at *
  obtain rfl : (nx : Int) = next := by omega
  have hloop := loop_run (body := fun n => L91_0 (ev Tryz.prog sg n) n) (fun k => [.int k, words K, .int nx, heapV (putK W nx (hdW fn tag K.length) K k) half base nx, .agg [.list [], .int 0, .int 0, .int 0]]) K.length (e := .x 0) (res := [words K, .int nx, heapV (putW W nx (hdW fn tag K.length) K) half base nx, .agg [.list [], .int 0, .int 0, .int 0]]) (fun k hk2 => Evt.all fun n => ?_) (Evt.all fun n => ?_) (by simp)
  · refine Is.of e91 ((headS (K := K) (fn := fn) ht hk).mp2 hloop fun n q1 q2 => ?_)
    have hs : ((W.map PV.int).set nx (.int (hdW fn tag K.length))) = (putK W nx (hdW fn tag K.length) K 0).map PV.int := by rw [← set_put (K := K) (by omega), List.map_set]
    have e0 : (nx : Int).toNat = nx := rfl
    simp only [show ((0 : Nat) : Int) = 0 from rfl] at q2
    simp (disch := omega) [F91, w1, hkl, geF, q1, geT, ltT, hl, hs, q2, wrap64]
  · have hn := nth_gw (W := K) (i := k) hk2
    have h1 := putK_len (W := W) (nx := nx) (hd := hdW fn tag K.length) (K := K) (k := k) (by omega) (by omega)
    have h2 := wordsLen (putK W nx (hdW fn tag K.length) K k)
    have h3 : ((putK W nx (hdW fn tag K.length) K k).map PV.int).set (nx + 1 + k) (.int (gw K k)) = (putK W nx (hdW fn tag K.length) K (k + 1)).map PV.int := by rw [← put_step (by omega) hk2, List.map_set]
    have e1 : ((nx : Int) + 1 + (k : Int)).toNat = nx + 1 + k := by omega
    generalize putK W nx (hdW fn tag K.length) K k = T at h1 h2 h3
    generalize putK W nx (hdW fn tag K.length) K (k + 1) = T' at h3
    simp (disch := omega) [L91_0, ltT, geT, hkl, hn, h2, wrap64, e1, h3]
  · unfold putW
    generalize putK W nx (hdW fn tag K.length) K K.length = T
    simp (disch := omega) [L91_0, ltF, hkl]
theorem allocS (hW : W.length ≤ 1048576) (hW2 : Rng W) (hK : Rng K) (hKl : K.length ≤ 1048576) : Rn 71 [heapV W half base next, .bool fn, .int tag, words K] (allocR W half base next fn tag K) := by
  have hkl := wordsLen K
  have r1 := heapS (half := half) (base := base) (next := next) hW fun w hw => (hW2 w hw).2
  have rc := hcopyS (half := half) (base := base) (next := next) hW
  unfold allocR allocOk
  cases c1 : heapB W half base next with
  | false =>
    rw [c1] at r1
    exact Is.of e71 (r1.mp2 rc fun n q1 q2 => by simp [F71, q1, q2, isB_unit])
  | true =>
  rw [c1] at r1
  have r2 := is51 tag 0 3000
  cases c2 : okR tag 0 3000 with
  | false =>
    rw [c2] at r2
    exact Is.of e71 (r1.mp3 rc r2 fun n q1 q2 q3 => by simp [F71, q1, q2, q3, isB_unit])
  | true =>
  rw [c2] at r2
  have ht := okR_in c2
  by_cases c3 : (K.length : Int) ≤ 20
  rotate_left
  · exact Is.of e71 (r1.mp3 rc r2 fun n q1 q2 q3 => by simp [F71, q1, q2, q3, isB_unit, hkl, gtT (Int.not_le.1 c3), leF (Int.not_le.1 c3)])
  have hp := (heapB_pre c1).2
  have hr := hp.rng
  have r4 := putS (W := W) (K := K) (half := half) (base := base) (next := next) (tag := tag) (fn := fn) hp ht (by omega)
  rw [leT c3]
  cases c4 : ltI K.length (base + half - next) with
  | false =>
    rw [c4] at r4
    exact Is.of e71 ((r1.and rc).mp3 r2 r4 fun n ⟨q1, q2⟩ q3 q4 => by simp at q4; simp [F71, q1, q2, q3, q4, isB_unit, hkl, gtF c3])
  | true =>
  rw [c4] at r4
  simp only [if_true] at r4
  have hlt : (K.length : Int) < base + half - next := by simpa [ltI] using c4
  obtain ⟨g1, g2, g3, g4⟩ := hp
  have hpl : (putW W next.toNat (hdW fn tag K.length) K).length ≤ 1048576 := by
    unfold putW
    rw [putK_len (by omega) (Nat.le_refl _)]; exact hW
  have hh := hdW_rng (K := K) (fn := fn) ht (by omega)
  have r5 := heapS (half := half) (base := base) (next := next + 1 + K.length) hpl fun w hw => (putW_rng hW2 hK (by omega) w hw).2
  generalize putW W next.toNat (hdW fn tag K.length) K = W' at r4 r5
  cases c5 : heapB W' half base (next + 1 + K.length) <;> rw [c5] at r5 <;>
    exact Is.of e71 ((r1.and rc).mp4 r2 r4 r5 fun n ⟨q1, q2⟩ q3 q4 q5 => by simp [F71, q1, q2, q3, q4, q5, isB_unit, hkl, gtF c3])
theorem roomI (hW : W.length ≤ 1048576) : Rn 18 [heapV W half base next] [.int (if heapB W half base next then IntKind.i64.wrap (IntKind.i64.wrap (base + half) - next) else 0)] := by
  refine Is.of e18 ((heapI (half := half) (base := base) (next := next) hW).mp fun n q => ?_)
  cases c1 : heapB W half base next <;> rw [c1] at q <;> simp [F18, q]
end
theorem newS (half : Int) : Rn 69 [.int half] (if okR half 1 3000 then [heapV (List.replicate (2 * half).toNat 0) half 0 0, .bool true] else [heapV [] 0 0 0, .bool false]) := by
  refine Is.of e69 ((is51 half 1 3000).mp fun n q => ?_)
  cases hc : okR half 1 3000 with
  | false => rw [hc] at q; simp [F69, q]
  | true =>
    have := okR_in hc
    rw [hc] at q
    simp (disch := omega) [F69, q, wrap64, geT, leT]
/-! ### Heaps that are drawn -/
section
variable {W R : List Int} {half base next : Int}
theorem kids_rng (hW : Rng W) (p : Nat) : Rng (kids W p) := fun w hw => by
  unfold kids at hw
  obtain ⟨k, _, rfl⟩ := List.mem_map.1 hw
  exact gw_big hW _
theorem mv_rng {b : Nat} {was : List Nat} (hb : b + sumB W was ≤ 100000) {x : Int} (hx : -9223372036854775808 ≤ x ∧ x < 9223372036854775808) (hi : inW was x) : -9223372036854775808 ≤ mv W b was x ∧ mv W b was x < 9223372036854775808 := by
  unfold mv
  split
  · rename_i he
    obtain ⟨h1, _⟩ := ix_lt (hi he)
    have := nowL_le (W := W) was b (ix was (x / 2).toNat) (by rw [nowL_len]; exact h1)
    omega
  · exact hx
structure DH (W : List Int) : Prop where
  l1 : 1 ≤ W.length
  l2 : W.length ≤ 6000
  big : Rng W
theorem collS (hW : DH W) (hR : Rng R) (hRl : R.length ≤ 1048576) : ∃ W' half' base' next' R', DH W' ∧ Rng R' ∧ R'.length = R.length ∧ Rn 7 [heapV W half base next, words R] [heapV W' half' base' next', words R'] := by
  have hl := wordsLen R
  have hl1 := hW.l2
  have r1 := rightS (half := half) (base := base) (next := next) (R := R) (by omega) hW.big hRl
  have rc := hcopyS (W := W) (half := half) (base := base) (next := next) (by omega)
  cases c1 : (heapB W half base next && allP (plcs W base next) R) with
  | false =>
    rw [c1] at r1
    refine ⟨W, half, base, next, R, hW, hR, rfl, Is.of e7 (r1.mp2 rc fun n q1 q2 => ?_)⟩
    simp (disch := omega) [F7, q1, q2, leNT, hl]
  | true =>
    rw [c1] at r1
    simp only [Bool.and_eq_true] at c1
    have h := sok c1.1
    have hp := (heapB_pre c1.1).2
    have hRt : ∀ x, x ∈ R → there (plcs W base next) x = true := fun x hx => List.all_eq_true.1 c1.2 x hx
    obtain ⟨fin, _, w1, w2, w3, r2⟩ := collectS h hRt hRl
    obtain ⟨g1, g2, g3, g4⟩ := hp
    have hs := sum_sub (W := W) w1.nodup w1.sub
    have hs2 := h.sum
    have hAl : (List.replicate (half - base).toNat (0 : Int) ++ blkF W (half - base).toNat fin fin).length = (half - base).toNat + sumB W fin := by simp [blkF_len]
    have hC : Rn 7 [heapV W half base next, words R] [toV (List.replicate (half - base).toNat 0 ++ blkF W (half - base).toNat fin fin) (2 * half).toNat half (half - base), words (R.map (mv W (half - base).toNat fin))] :=
      Is.of e7 (r1.mp2 r2 fun n q1 q2 => by simp only [F7, nth_0, nth_1, q1, q2, Option.bind_some, toBool_bool, Bool.not_true, iff_false', c1])
    refine ⟨_, _, _, _, _, ⟨?_, ?_, ?_⟩, ?_, ?_, hC⟩
    · rw [List.length_append, List.length_replicate]; have := hW.l1; omega
    · rw [List.length_append, List.length_replicate]; omega
    · intro w hw
      rcases List.mem_append.1 hw with hw | hw
      · rcases List.mem_append.1 hw with hw | hw
        · rw [(List.mem_replicate.1 hw).2]; decide
        · unfold blkF at hw
          obtain ⟨p, hp, hw⟩ := List.mem_flatMap.1 hw
          unfold blkM at hw
          rcases List.mem_cons.1 hw with rfl | hw
          · exact gw_big hW.big _
          · obtain ⟨x, hx, rfl⟩ := List.mem_map.1 hw
            exact mv_rng (by omega) (kids_rng hW.big p x hx) (w2 p hp x hx)
      · rw [(List.mem_replicate.1 hw).2]; decide
    · intro w hw
      obtain ⟨x, hx, rfl⟩ := List.mem_map.1 hw
      exact mv_rng (by omega) (hR x hx) (w3 x hx)
    · simp
theorem alloc_dh {K : List Int} {fn : Bool} {tag : Int} (hW : DH W) (hK : Rng K) : ∃ W' half' base' next' p ok, DH W' ∧ 0 ≤ p ∧ p ≤ 6000 ∧ allocR W half base next fn tag K = [heapV W' half' base' next', .int p, .bool ok] := by
  unfold allocR
  split
  · rename_i hc
    simp only [allocOk, Bool.and_eq_true] at hc
    obtain ⟨h1, h2, h3, h4, h5⟩ := hc
    have ht := okR_in h2
    have hk : K.length ≤ 20 := by have : (K.length : Int) ≤ 20 := by simpa [leI] using h3
                                  omega
    have hlt : (K.length : Int) < base + half - next := by simpa [ltI] using h4
    have hp := (heapB_pre h1).2
    have hr := hp.rng
    obtain ⟨g1, g2, g3, g4⟩ := hp
    have hh := hdW_rng (K := K) (fn := fn) ht hk
    have hpl : (putW W next.toNat (hdW fn tag K.length) K).length = W.length := by
      unfold putW
      exact putK_len (by omega) (Nat.le_refl _)
    exact ⟨_, _, _, _, _, _, ⟨by rw [hpl]; exact hW.l1, by rw [hpl]; exact hW.l2, putW_rng hW.big hK (by omega)⟩, by omega, by omega, rfl⟩
  · exact ⟨_, _, _, _, _, _, hW, by omega, by omega, rfl⟩
theorem kidsDraw (hv z : PV) (oi : PV) (hR : Rng R) (hR1 : 1 ≤ R.length) (hRl : R.length ≤ 1000) : ∀ (j i : Nat) (K : List Int) (c : PV), i + j = 3 → K.length ≤ i → Rng K → CurOk c → ∃ K' c', Rng K' ∧ K'.length ≤ 3 ∧ CurOk c' ∧
    Evt fun n => ∀ m, j + 1 ≤ m → loopEv (L48_0 (ev Tryz.prog sg n) n) m [.int i, words K, oi, words R, c, hv, z] = some (.x 2, [words K', oi, words R, c', hv, z]) := by
  have hl := wordsLen R
  intro j
  induction j with
  | zero =>
    intro i K c hi hK hKr hc
    obtain ⟨c1, x, k1, x0, x4, r1⟩ := belowS hc (n := 4) (by omega)
    refine ⟨K, c1, hKr, by omega, k1, r1.mp fun n q m hm => ?_⟩
    obtain ⟨m, rfl⟩ : ∃ m', m = m' + 1 := ⟨m - 1, by omega⟩
    have hB : L48_0 (ev Tryz.prog sg n) n [.int i, words K, oi, words R, c, hv, z] = some (.x 2, [words K, oi, words R, c1, hv, z]) := by
      simp (disch := omega) [L48_0, q, ltF]
    simp only [loopEv, hB, thenN_x, passE_eq]
  | succ j ih =>
    intro i K c hi hK hKr hc
    obtain ⟨c1, x, k1, x0, x4, r1⟩ := belowS hc (n := 4) (by omega)
    by_cases hx : (i : Int) < x
    · obtain ⟨c2, y, k2, y0, y1, r2⟩ := belowS k1 (n := R.length) (by omega)
      have hn := nth_gw (W := R) (i := y.toNat) (by omega)
      have hkl := wordsLen K
      obtain ⟨K', c', a1, a2, a3, r3⟩ := ih (i + 1) (K ++ [gw R y.toNat]) c2 (by omega) (by simp; omega) (fun w hw => by
        rcases List.mem_append.1 hw with hw | hw
        · exact hKr w hw
        · rw [List.mem_singleton.1 hw]; exact gw_big hR _) k2
      refine ⟨K', c', a1, a2, a3, r1.mp3 r2 r3 fun n q1 q2 q3 m hm => ?_⟩
      obtain ⟨m, rfl⟩ : ∃ m', m = m' + 1 := ⟨m - 1, by omega⟩
      have hB : L48_0 (ev Tryz.prog sg n) n [.int i, words K, oi, words R, c, hv, z] = some (.n, [.int (i + 1 : Nat), words (K ++ [gw R y.toNat]), oi, words R, c2, hv, z]) := by
        simp (disch := omega) [L48_0, q1, ltT, hl, q2, geT, hn, leNT, hkl, wrap64]
      simp only [loopEv, hB, thenN_n]
      exact q3 m (by omega)
    · refine ⟨K, c1, hKr, by omega, k1, r1.mp fun n q m hm => ?_⟩
      obtain ⟨m, rfl⟩ : ∃ m', m = m' + 1 := ⟨m - 1, by omega⟩
      have hB : L48_0 (ev Tryz.prog sg n) n [.int i, words K, oi, words R, c, hv, z] = some (.x 2, [words K, oi, words R, c1, hv, z]) := by
        simp (disch := omega) [L48_0, q, ltF]
      simp only [loopEv, hB, thenN_x, passE_eq]
end
theorem outDraw (z : PV) : ∀ (j i : Nat) (W R : List Int) (half base next : Int) (c : PV), i + j = 13 → DH W → Rng R → 1 ≤ R.length → R.length ≤ 2 + i → CurOk c → ∃ W' half' base' next' R' c', DH W' ∧ Rng R' ∧ 1 ≤ R'.length ∧ R'.length ≤ 20 ∧ CurOk c' ∧
    Evt fun n => ∀ m, j + 1 ≤ m → loopEv (L48_1 (ev Tryz.prog sg n) n) m [.int i, words R, c, heapV W half base next, z] = some (.x 0, [c', words R', heapV W' half' base' next', z]) := by
  intro j
  induction j with
  | zero =>
    intro i W R half base next c hi hW hR hR1 hRl hc
    obtain ⟨c1, x, k1, x0, x4, r1⟩ := belowS hc (n := 14) (by omega)
    refine ⟨W, half, base, next, R, c1, hW, hR, hR1, by omega, k1, r1.mp fun n q m hm => ?_⟩
    obtain ⟨m, rfl⟩ : ∃ m', m = m' + 1 := ⟨m - 1, by omega⟩
    have hB : L48_1 (ev Tryz.prog sg n) n [.int i, words R, c, heapV W half base next, z] = some (.x 0, [c1, words R, heapV W half base next, z]) := by
      simp (disch := omega) [L48_1, q, ltF]
    simp only [loopEv, hB, thenN_x, passE_eq]
  | succ j ih =>
    intro i W R half base next c hi hW hR hR1 hRl hc
    obtain ⟨c1, x, k1, x0, x4, r1⟩ := belowS hc (n := 14) (by omega)
    by_cases hx : (i : Int) < x
    rotate_left
    · refine ⟨W, half, base, next, R, c1, hW, hR, hR1, by omega, k1, r1.mp fun n q m hm => ?_⟩
      obtain ⟨m, rfl⟩ : ∃ m', m = m' + 1 := ⟨m - 1, by omega⟩
      have hB : L48_1 (ev Tryz.prog sg n) n [.int i, words R, c, heapV W half base next, z] = some (.x 0, [c1, words R, heapV W half base next, z]) := by
        simp (disch := omega) [L48_1, q, ltF]
      simp only [loopEv, hB, thenN_x, passE_eq]
    obtain ⟨K, c2, kr, kl, k2, r2⟩ := kidsDraw (heapV W half base next) z (.int i) hR hR1 (by omega) 3 0 [] c1 (by omega) (by simp) (by intro w hw; simp at hw) k1
    obtain ⟨c3, fn, k3, r3⟩ := onceS k2 (n := 4) (by omega)
    obtain ⟨c4, tag, k4, t0, t5, r4⟩ := belowS k3 (n := 5) (by omega)
    have r5 := allocS (half := half) (base := base) (next := next) (fn := fn) (tag := tag) (K := K) (by have := hW.l2; omega) hW.big kr (by omega)
    obtain ⟨W1, half1, base1, next1, p, ok, hW1, p0, p1, ea⟩ := alloc_dh (half := half) (base := base) (next := next) (fn := fn) (tag := tag) hW kr
    rw [ea] at r5
    -- the roots behind it
    obtain ⟨R1, W2, half2, base2, next2, hR1r, hR11, hR1l, hW2, hmid⟩ : ∃ R1 W2 half2 base2 next2, Rng R1 ∧ 1 ≤ R1.length ∧ R1.length ≤ 3 + i ∧ DH W2 ∧ Evt fun n => thenN (iff ok
        ((ev Tryz.prog sg n 73 [.int p]).bind fun r12 => (iff (leN ((words R).toList.length + ((nth r12 0) :: ([] : List PV)).length) 17592186044416) (some (Ex.n, [.int i, (PV.list ((words R).toList ++ ((nth r12 0) :: ([] : List PV)))), c4, heapV W1 half1 base1 next1, z])) none))
        (some (Ex.n, [.int i, words R, c4, heapV W half base next, z]))) (fun x => (some (Ex.n, x) : Option (Ex × List PV))) passE = some (.n, [.int i, words R1, c4, heapV W2 half2 base2 next2, z]) := by
      cases ok with
      | false => exact ⟨R, W, half, base, next, hR, hR1, by omega, hW, Evt.all fun n => by simp⟩
      | true =>
        refine ⟨R ++ [2 * p], W1, half1, base1, next1, fun w hw => ?_, by simp, by simp; omega, hW1, (refWS p0 p1).mp fun n q => ?_⟩
        · rcases List.mem_append.1 hw with hw | hw
          · exact hR w hw
          · rw [List.mem_singleton.1 hw]; omega
        · have hl := wordsLen R
          simp (disch := omega) [q, leNT, hl]
    obtain ⟨c5, b9, k5, r6⟩ := onceS k4 (n := 9) (by omega)
    obtain ⟨W3, half3, base3, next3, R3, hW3, hR3, hR3l, r7⟩ := collS (half := half2) (base := base2) (next := next2) hW2 hR1r (by omega)
    obtain ⟨W4, half4, base4, next4, R4, hW4, hR4, hR41, hR4l, hstep⟩ : ∃ W4 half4 base4 next4 R4, DH W4 ∧ Rng R4 ∧ 1 ≤ R4.length ∧ R4.length ≤ 2 + (i + 1) ∧ Evt fun n => L48_1 (ev Tryz.prog sg n) n [.int i, words R, c, heapV W half base next, z] = some (.n, [.int (i + 1 : Nat), words R4, c5, heapV W4 half4 base4 next4, z]) := by
      have go : ∀ (W4 R4 : List Int) (half4 base4 next4 : Int), (Evt fun n => (iff b9 ((ev Tryz.prog sg n 7 [heapV W2 half2 base2 next2, words R1]).bind fun r15 => (some (Ex.n, [.int i, (nth r15 1), c5, (nth r15 0), z]))) (some (Ex.n, [.int i, words R1, c5, heapV W2 half2 base2 next2, z]))) = some (.n, [.int i, words R4, c5, heapV W4 half4 base4 next4, z])) →
          Evt fun n => L48_1 (ev Tryz.prog sg n) n [.int i, words R, c, heapV W half base next, z] = some (.n, [.int (i + 1 : Nat), words R4, c5, heapV W4 half4 base4 next4, z]) := by
        intro W4 R4 half4 base4 next4 hl
        refine (((r1.and r2).and (Evt.ge 10)).and ((r3.and r4).and (r5.and hmid))).mp3 r6 hl fun n ⟨⟨⟨q1, q2⟩, q0⟩, ⟨q3, q4⟩, q5, q6⟩ q7 q8 => ?_
        have q2 := q2 n (by omega)
        simp only [show ((0 : Nat) : Int) = 0 from rfl] at q2
        have e0 : words ([] : List Int) = .list [] := rfl
        rw [e0] at q2
        generalize heapV W half base next = h0 at *
        generalize heapV W1 half1 base1 next1 = h1 at *
        generalize heapV W2 half2 base2 next2 = h2 at *
        generalize heapV W4 half4 base4 next4 = h4 at *
        generalize words R = wr at *
        generalize words R1 = wr1 at *
        generalize words R4 = wr4 at *
        generalize words K = wk at *
        have hmid2 : (iff ok ((ev Tryz.prog sg n 73 [.int p]).bind fun r12 => (iff (leN (wr.toList.length + ((nth r12 0) :: ([] : List PV)).length) 17592186044416) (some (Ex.n, [.int i, (PV.list (wr.toList ++ ((nth r12 0) :: ([] : List PV)))), c4, h1, z])) none)) (some (Ex.n, [.int i, wr, c4, h0, z]))) = some (.n, [.int i, wr1, c4, h2, z]) := by
          revert q6
          generalize (iff ok ((ev Tryz.prog sg n 73 [.int p]).bind fun r12 => (iff (leN (wr.toList.length + ((nth r12 0) :: ([] : List PV)).length) 17592186044416) (some (Ex.n, [.int i, (PV.list (wr.toList ++ ((nth r12 0) :: ([] : List PV)))), c4, h1, z])) none)) (some (Ex.n, [.int i, wr, c4, h0, z]))) = X
          intro q6
          cases X with
          | none => simp [thenN] at q6
          | some y =>
            obtain ⟨e, ps⟩ := y
            cases e <;> first | (simp [thenN] at q6; done) | simpa [thenN] using q6
        have w1 : IntKind.i64.wrap ((i : Int) + 1) = ((i + 1 : Nat) : Int) := by rw [wrap64 (by omega) (by omega)]; omega
        simp (disch := omega) only [L48_1, nth_0, nth_1, nth_2, nth_3, nth_4, nth_5, toInt_int, toBool_bool, q1, Option.bind_some, ltT, iff_true', q2, thenE_some, passB_same, thenN_n, q3, q4, q5, hmid2, q7, q8, w1]
      cases b9 with
      | false => exact ⟨W2, half2, base2, next2, R1, hW2, hR1r, hR11, by omega, go _ _ _ _ _ (Evt.all fun n => rfl)⟩
      | true => exact ⟨W3, half3, base3, next3, R3, hW3, hR3, by omega, by omega, go _ _ _ _ _ (r7.mp fun n q => by simp [q])⟩
    obtain ⟨W', half', base', next', R', c', a1, a2, a3, a4, a5, a6⟩ := ih (i + 1) W4 R4 half4 base4 next4 c5 (by omega) hW4 hR4 hR41 hR4l k5
    refine ⟨W', half', base', next', R', c', a1, a2, a3, a4, a5, hstep.mp2 a6 fun n q1 q2 m hm => ?_⟩
    obtain ⟨m, rfl⟩ : ∃ m', m = m' + 1 := ⟨m - 1, by omega⟩
    simp only [loopEv, q1, thenN_n]
    exact q2 m (by omega)
theorem drawRight {c : PV} (hc : CurOk c) : ∃ W half base next R c', DH W ∧ Rng R ∧ 1 ≤ R.length ∧ R.length ≤ 20 ∧ CurOk c' ∧ Rn 48 [c] [heapV W half base next, words R, c'] := by
  obtain ⟨c1, x, k1, hx, r1⟩ := pickS hc (V := [1, 6, 20, 60]) (by simp)
  have hxr : 1 ≤ x ∧ x ≤ 60 := by simp at hx; omega
  have r2 := newS x
  rw [show okR x 1 3000 = true by simp [okR]; omega] at r2
  simp only [if_true] at r2
  have r3 : Rn 70 [.int 5] [.int 11] := Is.of e70 ((is101 5).mp fun n q => by simp [okW] at q; simp [F70, q, wrap64])
  obtain ⟨W, half, base, next, R, c', a1, a2, a3, a4, a5, r4⟩ := outDraw (.agg [.list [], .int 0, .int 0, .int 0]) 13 0 (List.replicate (2 * x).toNat 0) [1, 11] x 0 0 c1 (by omega) ⟨by simp; omega, by simp; omega, fun w hw => by rw [(List.mem_replicate.1 hw).2]; decide⟩ (fun w hw => by simp at hw; omega) (by simp) (by simp) k1
  refine ⟨W, half, base, next, R, c', a1, a2, a3, a4, a5, Is.of e48 (((r1.and r2).and (r3.and r4)).mp2 (Evt.ge 14) fun n ⟨⟨q1, q2⟩, q3, q4⟩ q5 => ?_)⟩
  have q4 := q4 n q5
  simp only [show ((0 : Nat) : Int) = 0 from rfl] at q4
  have e1 : words [1, 6, 20, 60] = .list [.int 1, .int 6, .int 20, .int 60] := rfl
  have e2 : words [1, 11] = .list [.int 1, .int 11] := rfl
  rw [e1] at q1
  rw [e2] at q4
  generalize heapV (List.replicate (2 * x).toNat 0) x 0 0 = h0 at *
  simp [F48, q1, q2, q3, q4]
theorem drawAny {c : PV} (hc : CurOk c) : ∃ W half base next R c', DH W ∧ Rng R ∧ 1 ≤ R.length ∧ R.length ≤ 30 ∧ CurOk c' ∧ Rn 20 [c] [heapV W half base next, words R, c'] := by
  obtain ⟨W, half, base, next, R, c1, hW, hR, hR1, hRl, k1, r1⟩ := drawRight hc
  have hl := wordsLen R
  have hwl := wordsLen W
  obtain ⟨c2, x, k2, x0, x14, r2⟩ := belowS k1 (n := 14) (by omega)
  by_cases h0 : x = 0
  · obtain ⟨c3, y, k3, y0, y1, r3⟩ := belowS k2 (n := W.length) (by have := hW.l1; omega)
    obtain ⟨c4, v, k4, hv, r4⟩ := pickS k3 (V := [0, 1, 2, 3, 200, 99999, -1, 9223372036854775807]) (by simp)
    have e4 : words [0, 1, 2, 3, 200, 99999, -1, 9223372036854775807] = .list [.int 0, .int 1, .int 2, .int 3, .int 200, .int 99999, .int (-1), .int 9223372036854775807] := rfl
    rw [e4] at r4
    refine ⟨W.set y.toNat v, half, base, next, R, c4, ⟨by simp; exact hW.l1, by simp; exact hW.l2, fun w hw => ?_⟩, hR, hR1, by omega, k4, Is.of e20 ((r1.and r2).mp3 r3 r4 fun n ⟨q1, q2⟩ q3 q4 => ?_)⟩
    · rcases List.mem_or_eq_of_mem_set hw with hw | rfl
      · exact hW.big w hw
      · simp at hv; omega
    · simp (disch := omega) [F20, q1, q2, eqT, hwl, q3, q4, geT, ltT, List.map_set]
  by_cases h1 : x = 1
  · obtain ⟨c4, v, k4, hv, r4⟩ := pickS k2 (V := [-1, 0, 1, 3, 60, 121]) (by simp)
    have e4 : words [-1, 0, 1, 3, 60, 121] = .list [.int (-1), .int 0, .int 1, .int 3, .int 60, .int 121] := rfl
    rw [e4] at r4
    refine ⟨W, half, base, v, R, c4, hW, hR, hR1, by omega, k4, Is.of e20 (r1.mp3 r2 r4 fun n q1 q2 q4 => ?_)⟩
    simp (disch := omega) [F20, q1, q2, eqT, eqF, q4]
  by_cases h2 : x = 2
  · obtain ⟨c4, v, k4, hv, r4⟩ := pickS k2 (V := [0, 1, 6, 20]) (by simp)
    have e4 : words [0, 1, 6, 20] = .list [.int 0, .int 1, .int 6, .int 20] := rfl
    rw [e4] at r4
    refine ⟨W, half, v, next, R, c4, hW, hR, hR1, by omega, k4, Is.of e20 (r1.mp3 r2 r4 fun n q1 q2 q4 => ?_)⟩
    simp (disch := omega) [F20, q1, q2, eqT, eqF, q4]
  by_cases h3 : x = 3
  · obtain ⟨c4, v, k4, hv, r4⟩ := pickS k2 (V := [0, 6, 3001]) (by simp)
    have e4 : words [0, 6, 3001] = .list [.int 0, .int 6, .int 3001] := rfl
    rw [e4] at r4
    refine ⟨W, v, base, next, R, c4, hW, hR, hR1, by omega, k4, Is.of e20 (r1.mp3 r2 r4 fun n q1 q2 q4 => ?_)⟩
    simp (disch := omega) [F20, q1, q2, eqT, eqF, q4]
  by_cases h4 : x = 4
  · obtain ⟨c4, v, k4, hv, r4⟩ := pickS k2 (V := [0, 2, 4, 98, -2]) (by simp)
    have e4 : words [0, 2, 4, 98, -2] = .list [.int 0, .int 2, .int 4, .int 98, .int (-2)] := rfl
    rw [e4] at r4
    refine ⟨W, half, base, next, R ++ [v], c4, hW, fun w hw => ?_, by simp, by simp; omega, k4, Is.of e20 (r1.mp3 r2 r4 fun n q1 q2 q4 => ?_)⟩
    · rcases List.mem_append.1 hw with hw | hw
      · exact hR w hw
      · rw [List.mem_singleton.1 hw]
        simp at hv
        omega
    · simp (disch := omega) [F20, q1, q2, eqT, eqF, q4, leNT, hl]
  · refine ⟨W, half, base, next, R, c2, hW, hR, hR1, by omega, k2, Is.of e20 (r1.mp2 r2 fun n q1 q2 => ?_)⟩
    simp (disch := omega) [F20, q1, q2, eqF]
section
variable {bs : List PV}
end
section
variable {W : List Int} {half base next : Int}
structure HOk (W : List Int) (half base next : Int) (P : List Nat) : Prop where
  pre : Pre W half base next
  len : W.length ≤ 1048576
  big : ∀ w, w ∈ W → -9223372036854775808 ≤ w ∧ w < 9223372036854775808
  blk : Rn 45 [heapV W half base next] [nats P, .bool true]
  sorted : P.Pairwise (· < ·)
  plen : P.length ≤ 3000
  mem : ∀ p, p ∈ P → p + 1 + mny (gw W p) ≤ W.length ∧ okHd (gw W p) = true
theorem hok (hW : W.length ≤ 1048576) (hW2 : ∀ w, w ∈ W → -9223372036854775808 ≤ w ∧ w < 9223372036854775808) (h : heapB W half base next = true) : HOk W half base next (plcs W base next) := by
  obtain ⟨h1, h2⟩ := heapB_pre h
  have hb := blocksI (half := half) (base := base) (next := next) hW
  rw [h1] at hb
  exact ⟨h2, hW, hW2, by simpa using hb, plcs_sorted W base next, plcs_len W base next, fun p hp => plcs_in h2 hp⟩
theorem atI {P : List Nat} (h : HOk W half base next P) (p : Int) : Rn 44 [heapV W half base next, .int p] (if inP P p then [.bool (eqI (gw W p.toNat / 2 % 2) 1), .int (gw W p.toNat / 2 / 128), .list (((W.map PV.int).drop (p.toNat + 1)).take (mny (gw W p.toNat))), .bool true] else [.bool false, .int 0, .list [], .bool false]) := by
  obtain ⟨r, hr⟩ := bsI P p h.sorted (by have := h.plen; omega)
  cases hc : inP P p with
  | false =>
    rw [hc] at hr
    refine Is.of e44 (h.blk.mp2 hr fun n q1 q2 => ?_)
    simp [F44, q1, q2]
  | true =>
    rw [hc] at hr
    obtain ⟨q, hq, rfl⟩ := inP_iff.1 hc
    have hm := h.mem q hq
    have hl := h.len
    have hn := nth_gw (W := W) (i := q) (by omega)
    have hkl := kidsLen (W := W) (a := q + 1) (b := mny (gw W q)) hm.1
    refine Is.of e44 ((h.blk.and hr).mp4 (hdrI (gw W q)) (kidsI (half := half) (base := base) (next := next) hm.1 hl) (copyI (l := ((W.map PV.int).drop (q + 1)).take (mny (gw W q))) (by have := mny_lt (gw W q); omega)) fun n q1 q2 q3 q4 => ?_)
    simp (disch := omega) [F44, q1, q2, q3, q4, geT, ltT, hn]
end
end Go.Proofs.YthmhgnnaihkjaaaGreatDoor.GFnMoved
