/- What functions of the program and of the reference come to, for the law FnMoved. Each under the conditions that it names. -/
import Derived.Test.YthmhgnnaihkjaaaGreatDoorHFnMoved
namespace Go.Proofs.YthmhgnnaihkjaaaGreatDoor.GFnMoved
open Go Go.Rsc Go.Proofs.YthmhgnnaihkjaaaGreatDoor
set_option maxRecDepth 100000
set_option linter.unusedVariables false
set_option linter.unusedSimpArgs false
/-! ### What is moved is as it was -/
theorem zw_gw {A : List Int} {n i : Nat} (h : i < A.length) : gw (zw A n) i = gw A i := by
  unfold zw gw
  rw [List.getD_eq_getElem?_getD, List.getD_eq_getElem?_getD, List.getElem?_append_left h]
theorem gw_app {A B : List Int} {i : Nat} : gw (A ++ B) (A.length + i) = gw B i := by
  unfold gw
  rw [List.getD_eq_getElem?_getD, List.getD_eq_getElem?_getD, List.getElem?_append_right (by omega), Nat.add_sub_cancel_left]
theorem gw_lt {A B : List Int} {i : Nat} (h : i < A.length) : gw (A ++ B) i = gw A i := by
  unfold gw
  rw [List.getD_eq_getElem?_getD, List.getD_eq_getElem?_getD, List.getElem?_append_left h]
section
variable {W R : List Int} {half base next : Int} {P fin : List Nat} {b : Nat}
/-- the words that are moved -/
def mvW (W : List Int) (b : Nat) (fin : List Nat) (n : Nat) : List Int := zw (List.replicate b 0 ++ blkF W b fin fin) n
def newP (W : List Int) (b : Nat) (fin : List Nat) : List Nat := nowL W b fin
theorem blk_at (W : List Int) (b : Nat) (fin : List Nat) (n : Nat) {k i : Nat} (hk : k < fin.length) (hi : i < 1 + mny (gw W (gp fin k))) : gw (mvW W b fin n) (b + sumB W (fin.take k) + i) = gw (blkM W b fin (gp fin k)) i := by
  have hl : (List.replicate b (0 : Int) ++ blkF W b fin (fin.take k)).length = b + sumB W (fin.take k) := by simp [blkF_len]
  have hs := sum_take_drop W fin k
  rw [drop_gp hk] at hs
  simp only [sumB] at hs
  have e : List.replicate b (0 : Int) ++ blkF W b fin fin = (List.replicate b (0 : Int) ++ blkF W b fin (fin.take k)) ++ (blkM W b fin (gp fin k) ++ blkF W b fin (fin.drop (k + 1))) := by
    have : fin = fin.take k ++ gp fin k :: fin.drop (k + 1) := by rw [← drop_gp hk, List.take_append_drop]
    conv => lhs; arg 2; arg 4; rw [this]
    simp [blkF]
  unfold mvW
  rw [zw_gw (by simp [blkF_len]; omega), e, ← hl, gw_app, gw_lt (by rw [blkM_len]; exact hi)]
theorem new_gp (W : List Int) (b : Nat) (fin : List Nat) {k : Nat} (hk : k < fin.length) : gp (newP W b fin) k = b + sumB W (fin.take k) := nowL_gp W fin b k hk
theorem head_at (n : Nat) {k : Nat} (hk : k < fin.length) : gw (mvW W b fin n) (gp (newP W b fin) k) = gw W (gp fin k) := by
  have := blk_at W b fin n (i := 0) hk (by omega)
  rw [Nat.add_zero] at this
  rw [new_gp W b fin hk, this]
  rfl
theorem kids_at (n : Nat) {k : Nat} (hk : k < fin.length) : kids (mvW W b fin n) (gp (newP W b fin) k) = (kids W (gp fin k)).map (mv W b fin) := by
  have hl : mny (gw (mvW W b fin n) (gp (newP W b fin) k)) = mny (gw W (gp fin k)) := by rw [head_at n hk]
  apply List.ext_getElem
  · rw [kids_len, hl, List.length_map, kids_len]
  · intro j h1 h2
    have hj : j < mny (gw W (gp fin k)) := by rw [List.length_map, kids_len] at h2; exact h2
    have e1 := kids_gw (W := mvW W b fin n) (p := gp (newP W b fin) k) (k := j) (by rw [hl]; exact hj)
    have e2 := blk_at W b fin n (i := 1 + j) hk (by omega)
    rw [← new_gp W b fin hk, show gp (newP W b fin) k + (1 + j) = gp (newP W b fin) k + 1 + j by omega] at e2
    rw [e2] at e1
    have e3 : gw (blkM W b fin (gp fin k)) (1 + j) = gw ((kids W (gp fin k)).map (mv W b fin)) j := by
      unfold blkM
      rw [Nat.add_comm]
      rfl
    rw [e3] at e1
    simp only [gw, List.getD_eq_getElem?_getD, List.getElem?_eq_getElem h1, List.getElem?_eq_getElem h2, Option.getD_some] at e1
    exact e1
theorem new_len : (newP W b fin).length = fin.length := nowL_len W fin b
theorem new_inj {i j : Nat} (hi : i < fin.length) (hj : j < fin.length) (e : gp (newP W b fin) i = gp (newP W b fin) j) : i = j := by
  have mono : ∀ {i j : Nat}, i < j → j ≤ fin.length → sumB W (fin.take i) < sumB W (fin.take j) := by
    intro i j hij hj
    have h1 : sumB W (fin.take (i + 1)) = sumB W (fin.take i) + (1 + mny (gw W (gp fin i))) := by rw [take_gp (by omega), sumB_append]; simp [sumB]
    have h2 : fin.take j = fin.take (i + 1) ++ (fin.drop (i + 1)).take (j - (i + 1)) := by
      rw [← List.take_add, show i + 1 + (j - (i + 1)) = j by omega]
    rw [h2, sumB_append]
    omega
  rw [new_gp W b fin hi, new_gp W b fin hj] at e
  rcases Nat.lt_trichotomy i j with h | h | h
  · have := mono h (by omega); omega
  · exact h
  · have := mono h (by omega); omega
theorem nodup_of_gp {l : List Nat} (h : ∀ i j, i < l.length → j < l.length → gp l i = gp l j → i = j) : l.Nodup := by
  rw [List.nodup_iff_pairwise_ne, List.pairwise_iff_getElem]
  intro i j hi hj hij e
  have := h i j hi hj (by simpa [gp, List.getD_eq_getElem?_getD, hi, hj] using e)
  omega
theorem new_nodup : (newP W b fin).Nodup := nodup_of_gp fun i j hi hj e => new_inj (by rw [new_len] at hi; exact hi) (by rw [new_len] at hj; exact hj) e
theorem mv_even {x : Int} (he : x % 2 = 0) : mv W b fin x = 2 * (gp (newP W b fin) (ix fin (x / 2).toNat) : Int) := by simp [mv, he, newP]
theorem mv_odd {x : Int} (he : ¬ x % 2 = 0) : mv W b fin x = x := by simp [mv, he]
theorem mv_there {x : Int} (hx : inW fin x) (hP : there P x = true) : there (newP W b fin) (mv W b fin x) = true := by
  by_cases he : x % 2 = 0
  · obtain ⟨i1, _, _⟩ := ix_lt (hx he)
    rw [mv_even he]
    have hm : gp (newP W b fin) (ix fin (x / 2).toNat) ∈ newP W b fin := gp_mem (by rw [new_len]; exact i1)
    generalize gp (newP W b fin) (ix fin (x / 2).toNat) = y at hm
    have c1 : eqI (2 * (y : Int) % 2) 0 = true := eqT (by omega)
    have c2 : inP (newP W b fin) (2 * (y : Int) / 2) = true := inP_iff.2 ⟨y, hm, by omega⟩
    unfold there
    rw [c1, c2]
    rfl
  · rw [mv_odd he]
    have c1 : eqI (x % 2) 0 = false := eqF he
    simp only [there, c1, Bool.not_false, Bool.true_and, Bool.false_and, Bool.or_false] at hP ⊢
    exact hP
theorem plc_new (n : Nat) (hok : ∀ p, p ∈ fin → okHd (gw W p) = true) : ∀ (l : List Nat) (k i : Nat), fin.drop i = l → i ≤ fin.length → l.length ≤ k → plc (mvW W b fin n) (b + sumB W fin) k (b + sumB W (fin.take i)) = (true, nowL W (b + sumB W (fin.take i)) l)
  | [], k, i, hd, hi, hk => by
    have e : i = fin.length := by
      have := congrArg List.length hd
      rw [List.length_drop] at this
      simp at this
      omega
    rw [e, List.take_length, plc_stop (Nat.le_refl _)]
    rfl
  | p :: l, k, i, hd, hi, hk => by
    obtain ⟨k, rfl⟩ : ∃ k', k = k' + 1 := ⟨k - 1, by simp at hk; omega⟩
    have hlt : i < fin.length := by
      have := congrArg List.length hd
      rw [List.length_drop] at this
      simp at this
      omega
    have hd2 := drop_gp hlt
    rw [hd] at hd2
    obtain ⟨hp, hl⟩ := List.cons.inj hd2
    have hs := sum_take_drop W fin i
    rw [hd] at hs
    simp only [sumB] at hs
    have hh := head_at (W := W) (b := b) n hlt
    rw [new_gp W b fin hlt, ← hp] at hh
    have hss : sumB W (fin.take (i + 1)) = sumB W (fin.take i) + (1 + mny (gw W p)) := by rw [take_gp hlt, sumB_append, ← hp]; simp [sumB]
    have ih := plc_new n hok l k (i + 1) hl.symm (by omega) (by simpa using hk)
    have hpo := hok p (hp ▸ gp_mem hlt)
    simp only [plc, hh, hpo, Bool.true_and]
    rw [if_pos (by omega), if_pos (by simp; omega)]
    rw [hss, show b + (sumB W (fin.take i) + (1 + mny (gw W p))) = b + sumB W (fin.take i) + 1 + mny (gw W p) by omega] at ih
    rw [ih]
    rfl
/-- a moved heap is right -/
theorem moved_ok (h : SOk W half base next P) (hf : Way P fin) (hk : ∀ q, q ∈ fin → ∀ x, x ∈ kids W q → inW fin x) (hb : b = (half - base).toNat) :
    heapB (mvW W b fin (2 * half).toNat) half (half - base) ((b + sumB W fin : Nat) : Int) = true ∧ plcs (mvW W b fin (2 * half).toNat) (half - base) ((b + sumB W fin : Nat) : Int) = newP W b fin := by
  obtain ⟨g1, g2, g3, g4⟩ := h.pre
  have hbb : (b : Int) = half - base := by omega
  have hs0 := sum_sub (W := W) hf.nodup hf.sub
  have hs1 := h.sum
  have hpl := h.plen
  have hfl := len_sub hf.nodup hf.sub
  have hal : (List.replicate b (0 : Int) ++ blkF W b fin fin).length = b + sumB W fin := by simp [blkF_len]
  have hlen : (mvW W b fin (2 * half).toNat).length = (2 * half).toNat := zw_len (by omega)
  have hp := plc_new (b := b) (W := W) (2 * half).toNat (fun p hp => (h.mem p (hf.sub p hp)).2) fin 3000 0 rfl (by omega) (by omega)
  rw [List.take_zero] at hp
  simp only [sumB, Nat.add_zero] at hp
  have e1 : ((b + sumB W fin : Nat) : Int).toNat = b + sumB W fin := by omega
  have hplcs : plcs (mvW W b fin (2 * half).toNat) (half - base) ((b + sumB W fin : Nat) : Int) = newP W b fin := by
    unfold plcs
    rw [e1, ← hb, hp]
    rfl
  refine ⟨?_, hplcs⟩
  have hplB : plcsB (mvW W b fin (2 * half).toNat) (half - base) ((b + sumB W fin : Nat) : Int) = true := by
    unfold plcsB
    rw [e1, ← hb, hp]
  have hpre : preB (mvW W b fin (2 * half).toNat) half (half - base) ((b + sumB W fin : Nat) : Int) = true := by
    have c1 : okR half 1 3000 = true := by simp [okR]; omega
    have c2 : eqI ((mvW W b fin (2 * half).toNat).length : Int) (2 * half) = true := eqT (by rw [hlen]; omega)
    have c3 : (eqI (half - base) 0 || eqI (half - base) half) = true := by
      rcases g3 with e | e
      · rw [eqT (x := half - base) (y := half) (by omega)]; simp
      · rw [eqT (x := half - base) (y := 0) (by omega)]; rfl
    have c4 : okR ((b + sumB W fin : Nat) : Int) (half - base) (half - base + half) = true := by simp [okR]; omega
    unfold preB
    rw [c1, c2, c3, c4]
    rfl
  unfold heapB
  rw [hpre, hplB, hplcs]
  simp only [Bool.true_and, List.all_eq_true, List.mem_range]
  intro i hi
  rw [new_len] at hi
  have hkk := kids_at (W := W) (b := b) (2 * half).toNat hi
  unfold kidB
  simp only [List.all_eq_true, List.mem_range]
  intro j hj
  have hj2 := hj
  have e2 := kids_gw (W := mvW W b fin (2 * half).toNat) (p := gp (newP W b fin) i) (k := j) hj
  rw [← e2, hkk]
  rw [head_at _ hi] at hj
  have hjl : j < (kids W (gp fin i)).length := by rw [kids_len]; exact hj
  have e3 : gw ((kids W (gp fin i)).map (mv W b fin)) j = mv W b fin (gw (kids W (gp fin i)) j) := by
    simp [gw, List.getD_eq_getElem?_getD, hjl]
  rw [e3]
  have hm := gw_mem hjl
  exact mv_there (hk _ (gp_mem hi) _ hm) (h.kid _ (hf.sub _ (gp_mem hi)) _ hm)
/-! ### .. and is met in the same order -/
def phi (W : List Int) (b : Nat) (fin : List Nat) (p : Nat) : Nat := gp (newP W b fin) (ix fin p)
theorem phi_inj {p q : Nat} (hp : p ∈ fin) (hq : q ∈ fin) (e : phi W b fin p = phi W b fin q) : p = q := by
  obtain ⟨i1, i2, _⟩ := ix_lt hp
  obtain ⟨j1, j2, _⟩ := ix_lt hq
  have := new_inj i1 j1 e
  rw [← i2, ← j2, this]
theorem phi_gp (hn : fin.Nodup) {k : Nat} (hk : k < fin.length) : phi W b fin (gp fin k) = gp (newP W b fin) k := by
  unfold phi
  rw [ix_gp hn hk]
theorem phi_mem {was : List Nat} (hs : ∀ q, q ∈ was → q ∈ fin) {p : Nat} (hp : p ∈ fin) : phi W b fin p ∈ was.map (phi W b fin) ↔ p ∈ was := by
  constructor
  · intro h
    obtain ⟨q, hq, e⟩ := List.mem_map.1 h
    rw [← phi_inj (hs q hq) hp e]
    exact hq
  · exact fun h => List.mem_map.2 ⟨p, h, rfl⟩
theorem mv_phi {x : Int} (he : x % 2 = 0) : mv W b fin x % 2 = 0 ∧ (mv W b fin x / 2).toNat = phi W b fin (x / 2).toNat := by
  rw [mv_even he]
  show _ ∧ _ = gp (newP W b fin) (ix fin (x / 2).toNat)
  generalize gp (newP W b fin) (ix fin (x / 2).toNat) = y
  omega
theorem addW_phi {was : List Nat} (hs : ∀ q, q ∈ was → q ∈ fin) {x : Int} (hx : inW fin x) : addW (was.map (phi W b fin)) (mv W b fin x) = (addW was x).map (phi W b fin) := by
  by_cases he : x % 2 = 0
  · obtain ⟨m1, m2⟩ := mv_phi (W := W) (b := b) (fin := fin) he
    unfold addW
    rw [m2]
    have hm := phi_mem (W := W) (b := b) hs (hx he)
    by_cases hin : (x / 2).toNat ∈ was
    · rw [if_neg (fun h => h.2 (hm.2 hin)), if_neg (fun h => h.2 hin)]
    · rw [if_pos ⟨m1, fun h => hin (hm.1 h)⟩, if_pos ⟨he, hin⟩]
      simp
  · rw [mv_odd he]
    simp [addW, he]
theorem addAll_phi : ∀ {l : List Int} {was : List Nat}, (∀ q, q ∈ addAll was l → q ∈ fin) → (∀ x, x ∈ l → inW fin x) → addAll (was.map (phi W b fin)) (l.map (mv W b fin)) = (addAll was l).map (phi W b fin)
  | [], was, _, _ => rfl
  | x :: l, was, hs, hx => by
    have e1 : addAll was (x :: l) = addAll (addW was x) l := rfl
    have e2 : addAll (was.map (phi W b fin)) ((x :: l).map (mv W b fin)) = addAll (addW (was.map (phi W b fin)) (mv W b fin x)) (l.map (mv W b fin)) := rfl
    have hsub : ∀ q, q ∈ was → q ∈ fin := fun q hq => hs q (by
      obtain ⟨m, hm⟩ := addAll_ext (x :: l) was
      rw [hm]; simp [hq])
    rw [e1, e2, addW_phi hsub (hx x (by simp))]
    exact addAll_phi (l := l) (was := addW was x) (by rw [← e1]; exact hs) fun y hy => hx y (by simp [hy])
theorem bfs_ext (W : List Int) : ∀ (d i : Nat) (was : List Nat), ∃ m, bfs W d i was = was ++ m
  | 0, _, was => ⟨[], by simp [bfs]⟩
  | d + 1, i, was => by
    simp only [bfs]
    split
    · obtain ⟨m1, h1⟩ := addAll_ext (kids W (gp was i)) was
      obtain ⟨m2, h2⟩ := bfs_ext W d (i + 1) (addAll was (kids W (gp was i)))
      exact ⟨m1 ++ m2, by rw [h2, h1, List.append_assoc]⟩
    · exact ⟨[], by simp⟩
theorem gp_map (f : Nat → Nat) {l : List Nat} {i : Nat} (h : i < l.length) : gp (l.map f) i = f (gp l i) := by
  simp [gp, List.getD_eq_getElem?_getD, h]
theorem bfs_phi (n : Nat) (hn : fin.Nodup) (hk : ∀ q, q ∈ fin → ∀ x, x ∈ kids W q → inW fin x) : ∀ (d i : Nat) (was : List Nat), (∀ q, q ∈ bfs W d i was → q ∈ fin) → bfs (mvW W b fin n) d i (was.map (phi W b fin)) = (bfs W d i was).map (phi W b fin)
  | 0, _, _, _ => rfl
  | d + 1, i, was, hs => by
    by_cases hlt : i < was.length
    · have e1 : bfs W (d + 1) i was = bfs W d (i + 1) (addAll was (kids W (gp was i))) := by simp [bfs, hlt]
      rw [e1] at hs ⊢
      have hs2 : ∀ q, q ∈ addAll was (kids W (gp was i)) → q ∈ fin := fun q hq => hs q (by
        obtain ⟨m, hm⟩ := bfs_ext W d (i + 1) (addAll was (kids W (gp was i)))
        rw [hm]; simp [hq])
      have hs1 : ∀ q, q ∈ was → q ∈ fin := fun q hq => hs2 q (by
        obtain ⟨m, hm⟩ := addAll_ext (kids W (gp was i)) was
        rw [hm]; simp [hq])
      have hg := hs1 _ (gp_mem hlt)
      obtain ⟨i1, i2, _⟩ := ix_lt hg
      have ek : kids (mvW W b fin n) (gp (was.map (phi W b fin)) i) = (kids W (gp was i)).map (mv W b fin) := by
        rw [gp_map _ hlt]
        have := kids_at (W := W) (b := b) (fin := fin) n i1
        rw [i2] at this
        exact this
      have e2 : bfs (mvW W b fin n) (d + 1) i (was.map (phi W b fin)) = bfs (mvW W b fin n) d (i + 1) (addAll (was.map (phi W b fin)) (kids (mvW W b fin n) (gp (was.map (phi W b fin)) i))) := by simp [bfs, hlt]
      rw [e2, ek, addAll_phi hs2 (hk _ hg)]
      exact bfs_phi n hn hk d (i + 1) _ hs
    · simp [bfs, hlt]
theorem phi_all (hn : fin.Nodup) : fin.map (phi W b fin) = newP W b fin := by
  apply List.ext_getElem
  · rw [List.length_map, new_len]
  · intro i h1 h2
    have hi : i < fin.length := by simpa using h1
    have := phi_gp (W := W) (b := b) hn hi
    simp only [gp, List.getD_eq_getElem?_getD, List.getElem?_eq_getElem hi, List.getElem?_eq_getElem h2, Option.getD_some] at this
    rw [List.getElem_map, this]
theorem bfs_more {W : List Int} {half base next : Int} {P : List Nat} (h : SOk W half base next P) : ∀ (d i : Nat) (was : List Nat), P.length ≤ i + d → Way P was → i ≤ was.length → ∀ d', d ≤ d' → bfs W d' i was = bfs W d i was
  | 0, i, was, h1, hw, hi, d', hd => by
    have := len_sub hw.nodup hw.sub
    cases d' with
    | zero => rfl
    | succ d' => simp [bfs, show ¬ i < was.length by omega]
  | d + 1, i, was, h1, hw, hi, d', hd => by
    obtain ⟨d', rfl⟩ : ∃ e, d' = e + 1 := ⟨d' - 1, by omega⟩
    simp only [bfs]
    by_cases hlt : i < was.length
    · rw [if_pos hlt, if_pos hlt]
      have hpm : gp was i ∈ P := hw.sub _ (gp_mem hlt)
      have hgrow : was.length ≤ (addAll was (kids W (gp was i))).length := by
        obtain ⟨m, e⟩ := addAll_ext (kids W (gp was i)) was
        rw [e]; simp
      exact bfs_more h d (i + 1) _ (by omega) (addAll_way hw (h.kid _ hpm)) (by omega) d' (by omega)
    · rw [if_neg hlt, if_neg hlt]
/-- what a moved heap's roots come to -/
theorem moved_fin (h : SOk W half base next P) (hR : ∀ x, x ∈ R → there P x = true) (hfin : fin = bfs W P.length 0 (addAll [] R)) (hf : Way P fin) (hk : ∀ q, q ∈ fin → ∀ x, x ∈ kids W q → inW fin x) (hRf : ∀ x, x ∈ R → inW fin x) (hb : b = (half - base).toNat) :
    bfs (mvW W b fin (2 * half).toNat) (newP W b fin).length 0 (addAll [] (R.map (mv W b fin))) = newP W b fin := by
  obtain ⟨m1, m2⟩ := moved_ok h hf hk hb
  have hs' := sok m1
  rw [m2] at hs'
  have hfl := len_sub hf.nodup hf.sub
  have hsub : ∀ q, q ∈ addAll [] R → q ∈ fin := fun q hq => by
    obtain ⟨m, hm⟩ := bfs_ext W P.length 0 (addAll [] R)
    rw [hfin, hm]; simp [hq]
  have e1 := addAll_phi (W := W) (b := b) (fin := fin) (l := R) (was := []) hsub hRf
  rw [List.map_nil] at e1
  have hRn : ∀ x, x ∈ R.map (mv W b fin) → there (newP W b fin) x = true := fun x hx => by
    obtain ⟨y, hy, rfl⟩ := List.mem_map.1 hx
    exact mv_there (hRf y hy) (hR y hy)
  have e2 := bfs_more hs' (newP W b fin).length 0 (addAll [] (R.map (mv W b fin))) (by omega) (addAll_way ⟨List.nodup_nil, by simp⟩ hRn) (by omega) P.length (by rw [new_len]; exact hfl)
  rw [← e2, e1, bfs_phi _ hf.nodup hk P.length 0 (addAll [] R) (by rw [← hfin]; exact fun q hq => hq), ← hfin, phi_all hf.nodup]
/-! ### .. and is shown as it was -/
theorem word_mv {x : Int} (hx : inW fin x) : wordB (newP W b fin) (mv W b fin x) = wordB fin x := by
  by_cases he : x % 2 = 0
  · obtain ⟨m1, m2⟩ := mv_phi (W := W) (b := b) (fin := fin) he
    obtain ⟨i1, _, _⟩ := ix_lt (hx he)
    have : ix (newP W b fin) (phi W b fin (x / 2).toNat) = ix fin (x / 2).toNat := ix_gp new_nodup (by rw [new_len]; exact i1)
    unfold wordB
    rw [if_pos m1, if_pos he, m2, this]
  · rw [mv_odd he]
    unfold wordB
    rw [if_neg he, if_neg he]
theorem words_mv {l : List Int} (h : ∀ x, x ∈ l → inW fin x) : wordsB (newP W b fin) (l.map (mv W b fin)) = wordsB fin l := by
  induction l with
  | nil => rfl
  | cons x l ih =>
    have := ih fun y hy => h y (by simp [hy])
    simp only [wordsB, List.map_cons, List.flatMap_cons] at this ⊢
    rw [word_mv (h x (by simp)), this]
theorem flat_ix {β : Type} (f : Nat → List β) (l : List Nat) : l.flatMap f = (List.range l.length).flatMap fun i => f (gp l i) := by
  have : l = (List.range l.length).map (gp l) := by
    apply List.ext_getElem
    · simp
    · intro i h1 h2
      simp [gp, List.getD_eq_getElem?_getD, h1]
  conv => lhs; rw [this]
  rw [List.flatMap_map]
theorem shape_mv (n : Nat) (hk : ∀ q, q ∈ fin → ∀ x, x ∈ kids W q → inW fin x) (hRf : ∀ x, x ∈ R → inW fin x) : shapeB (mvW W b fin n) (newP W b fin) (R.map (mv W b fin)) (newP W b fin) = shapeB W fin R fin := by
  unfold shapeB
  rw [words_mv hRf, flat_ix _ (newP W b fin), flat_ix _ fin, new_len]
  congr 1
  rw [List.flatMap_def, List.flatMap_def]
  congr 1
  refine List.map_congr_left fun i hi => ?_
  have hi := List.mem_range.1 hi
  unfold blockB
  rw [head_at n hi, kids_at n hi, words_mv (hk _ (gp_mem hi))]
theorem sum_mv (n : Nat) : sumB (mvW W b fin n) (newP W b fin) = sumB W fin := by
  have key : ∀ (l : List Nat) (W : List Int), sumB W l = ((List.range l.length).map fun i => 1 + mny (gw W (gp l i))).sum := by
    intro l W
    have : l = (List.range l.length).map (gp l) := by
      apply List.ext_getElem
      · simp
      · intro i h1 h2
        simp [gp, List.getD_eq_getElem?_getD, h1]
    have h2 : ∀ l : List Nat, sumB W l = (l.map fun p => 1 + mny (gw W p)).sum := by
      intro l
      induction l with
      | nil => rfl
      | cons p l ih => simp [sumB, ih]
    rw [h2]
    conv => lhs; rw [this]
    rw [List.map_map]
    rfl
  rw [key, key, new_len]
  congr 1
  refine List.map_congr_left fun i hi => ?_
  rw [head_at n (List.mem_range.1 hi)]
theorem sum_perm (W : List Int) {l m : List Nat} (h : l.Perm m) : sumB W l = sumB W m := by
  have h2 : ∀ l : List Nat, sumB W l = (l.map fun p => 1 + mny (gw W p)).sum := by
    intro l
    induction l with
    | nil => rfl
    | cons p l ih => simp [sumB, ih]
  rw [h2, h2]
  exact (h.map _).sum_nat
end
/-! ### What the law draws -/
theorem kidsDraw3 (hv z : PV) {R : List Int} (hR : Rng R) (hR1 : 1 ≤ R.length) (hRl : R.length ≤ 1000) : ∀ (j i : Nat) (K : List Int) (c : PV), i + j = 3 → K.length ≤ i → Rng K → CurOk c → ∃ K', Rng K' ∧ K'.length ≤ 3 ∧
    Evt fun n => ∀ m, j + 1 ≤ m → loopEv (L5_0 (ev Tryz.prog sg n) n) m [.int i, words R, words K, c, hv, z] = some (.x 0, [words K', hv, z]) := by
  have hl := wordsLen R
  intro j
  induction j with
  | zero =>
    intro i K c hi hK hKr hc
    obtain ⟨c1, x, k1, x0, x4, r1⟩ := belowS hc (n := 4) (by omega)
    refine ⟨K, hKr, by omega, r1.mp fun n q m hm => ?_⟩
    obtain ⟨m, rfl⟩ : ∃ m', m = m' + 1 := ⟨m - 1, by omega⟩
    have hB : L5_0 (ev Tryz.prog sg n) n [.int i, words R, words K, c, hv, z] = some (.x 0, [words K, hv, z]) := by
      simp (disch := omega) [L5_0, q, ltF]
    simp only [loopEv, hB, thenN_x, passE_eq]
  | succ j ih =>
    intro i K c hi hK hKr hc
    obtain ⟨c1, x, k1, x0, x4, r1⟩ := belowS hc (n := 4) (by omega)
    by_cases hx : (i : Int) < x
    · obtain ⟨c2, y, k2, y0, y1, r2⟩ := belowS k1 (n := R.length) (by omega)
      have hn := nth_gw (W := R) (i := y.toNat) (by omega)
      have hkl := wordsLen K
      obtain ⟨K', a1, a2, r3⟩ := ih (i + 1) (K ++ [gw R y.toNat]) c2 (by omega) (by simp; omega) (fun w hw => by
        rcases List.mem_append.1 hw with hw | hw
        · exact hKr w hw
        · rw [List.mem_singleton.1 hw]; exact gw_big hR _) k2
      refine ⟨K', a1, a2, r1.mp3 r2 r3 fun n q1 q2 q3 m hm => ?_⟩
      obtain ⟨m, rfl⟩ : ∃ m', m = m' + 1 := ⟨m - 1, by omega⟩
      have hB : L5_0 (ev Tryz.prog sg n) n [.int i, words R, words K, c, hv, z] = some (.n, [.int (i + 1 : Nat), words R, words (K ++ [gw R y.toNat]), c2, hv, z]) := by
        simp (disch := omega) [L5_0, q1, ltT, hl, q2, geT, hn, leNT, hkl, wrap64]
      simp only [loopEv, hB, thenN_n]
      exact q3 m (by omega)
    · refine ⟨K, hKr, by omega, r1.mp fun n q m hm => ?_⟩
      obtain ⟨m, rfl⟩ : ∃ m', m = m' + 1 := ⟨m - 1, by omega⟩
      have hB : L5_0 (ev Tryz.prog sg n) n [.int i, words R, words K, c, hv, z] = some (.x 0, [words K, hv, z]) := by
        simp (disch := omega) [L5_0, q, ltF]
      simp only [loopEv, hB, thenN_x, passE_eq]
section
variable {bs : List PV}
theorem drawCollect (hb : Bs bs) : ∃ W half base next R, DH W ∧ Rng R ∧ R.length ≤ 1000 ∧ Rn 5 [.list bs] [heapV W half base next, words R] := by
  obtain ⟨c, k0, r0⟩ := newCur hb
  obtain ⟨W, half, base, next, R, c1, hW, hR, hR1, hRl, k1, r1⟩ := drawAny k0
  obtain ⟨K, hK, hKl, r2⟩ := kidsDraw3 (heapV W half base next) zV hR hR1 (by omega) 3 0 [] c1 (by omega) (by simp) (fun w hw => by simp at hw) k1
  refine ⟨W, half, base, next, K, hW, hK, by omega, Is.of e5 ((r0.and r1).mp2 (r2.and (Evt.ge 4)) fun n ⟨q0, q1⟩ ⟨q2, qn⟩ => ?_)⟩
  have q2' : loopEv (L5_0 (ev Tryz.prog sg n) n) n [.int 0, words R, .list [], c1, heapV W half base next, .agg [.list [], .int 0, .int 0, .int 0]] = some (.x 0, [words K, heapV W half base next, zV]) := q2 n qn
  simp only [F5, nth_0, nth_1, nth_2, q0, q1, Option.bind_some, q2', thenE_some, passB_same, thenN_n]
theorem drawShape (hb : Bs bs) : ∃ W half base next R, DH W ∧ Rng R ∧ R.length ≤ 1000 ∧ Rn 11 [.list bs] [heapV W half base next, words R] := by
  obtain ⟨W, half, base, next, R, h1, h2, h3, r⟩ := drawCollect hb
  exact ⟨W, half, base, next, R, h1, h2, h3, Is.of e11 (r.mp fun n q => by simp only [F11, nth_0, nth_1, q, Option.bind_some])⟩
theorem drawReach (hb : Bs bs) : ∃ W half base next R, DH W ∧ Rng R ∧ R.length ≤ 1000 ∧ Rn 10 [.list bs] [heapV W half base next, words R] := by
  obtain ⟨c, k0, r0⟩ := newCur hb
  obtain ⟨W, half, base, next, R, c1, hW, hR, hR1, hRl, k1, r1⟩ := drawAny k0
  exact ⟨W, half, base, next, R, hW, hR, by omega, Is.of e10 (r0.mp2 r1 fun n q0 q1 => by simp only [F10, nth_0, nth_1, q0, q1, Option.bind_some])⟩
end
/-! ### The law's own comparisons -/
theorem sameI {R : List Int} (hR : R.length ≤ 1048576) : Rn 9 [words R, words R] [.bool true] := by
  have hl := wordsLen R
  have h1 := loop_run (body := fun n => L9_0 (ev Tryz.prog sg n) n) (fun k => [.int k, words R, words R]) R.length (e := .x 0) (res := []) (fun k hk => Evt.all fun n => ?_) (Evt.all fun n => ?_) (by decide)
  · refine Is.of e9 (h1.mp fun n q => ?_)
    have q' : loopEv (L9_0 (ev Tryz.prog sg n) n) n [.int 0, words R, words R] = some (.x 0, []) := q
    simp only [F9, nth_0, nth_1, toList_list, neF, iff_false', q', thenE_some, passB_same, thenN_n]
  · have hn := nth_gw hk
    simp (disch := omega) [L9_0, ltT, geT, hl, hn, neF, wrap64]
  · simp (disch := omega) [L9_0, ltF, hl]
theorem sameH {W : List Int} {half base next : Int} (hW : W.length ≤ 1048576) : Rn 8 [heapV W half base next, heapV W half base next] [.bool true] := by
  refine Is.of e8 ((sameI hW).mp fun n q => ?_)
  have c : ∀ x : Int, eqI x x = true := fun x => eqT rfl
  simp only [F8, nth_0, nth_1, nth_2, nth_3, fld_agg, toInt_int, c, beq_self_eq_true, selB_true, toBool_bool, isB_bool, iff_true', q, Option.bind_some]
end Go.Proofs.YthmhgnnaihkjaaaGreatDoor.GFnMoved
